/- Contracts and plain laws that this claim leans on, laid together: Plain, Base, Kd, Codec1, PutN, Rdr1, PlainR, Rdr2, Rdr3, Rdr4, Rdr5, Rdr8, Own, Equal. -/
import Derived.Laws.BitsAllLaws
import Derived.Laws.BitsLemmas
import Derived.RowKit
import Derived.Test.YtmnpchncmbnddaaProg
import Derived.WalkKit
import Derived.WalkLawsBesides
import Derived.WalkSpells
import Derived.Deep.AppendSrc
import Derived.Deep.AppendLies
import Derived.Deep.Draws
import Derived.Maps.AppendAt
import Derived.Lib.Hide
import Derived.Lib.SlBytesConst
import Derived.Lib.ConvBytes
import Derived.KernelRfl
import Derived.Test.YtmnpchncmbnddaaRows
import Derived.ProofKit
import Derived.Deep.Slices
import Derived.SizedLaws
import Derived.ChangeSlices
import Derived.Recover
import Derived.Deep.QuietTactic
import Derived.BigQuiet
set_option linter.all false
set_option linter.unusedVariables false
set_option linter.unusedSimpArgs false
set_option linter.unnecessarySimpa false
/- Plain words on bytes and numbers: the short form, the fold, fixed widths. No program in sight. -/
namespace Go.Proofs.Ytmnpchncmbnddaa
open Go.RowKit

/-- The short form of a fold. -/
def shortF (u : Nat) : List UInt8 := if u < 128 then [UInt8.ofNat u] else UInt8.ofNat (u % 128 + 128) :: shortF (u / 128)
termination_by u
decreasing_by omega
/-- The fold of an int. -/
def foldI (n : Int) : Nat := if 0 ≤ n then (2 * n).toNat else (2 * (-(n + 1)) + 1).toNat
/-- The short form of an int. -/
def intF (n : Int) : List UInt8 := shortF (foldI n)
/-- The lowest k bytes of v, the highest first. -/
def beN : Nat → Nat → List UInt8
  | 0, _ => []
  | k + 1, v => UInt8.ofNat (v / 256 ^ k % 256) :: beN k v
theorem u8_int (n : Nat) (h : n < 256) : ((UInt8.ofNat n).toNat : Int) = (n : Int) := by
  rw [UInt8.toNat_ofNat_of_lt' (by omega)]
end Go.Proofs.Ytmnpchncmbnddaa
/- Words of this claim's own: a slice that reads as a list, append onto an owned row from any source, bytes as cells. -/
namespace Go.Proofs.Ytmnpchncmbnddaa
open Go.RowKit

/-- A goal at which the walk is to stand still. -/
structure Stop (p : Prop) : Prop where
  go : p
theorem Stop.of {p : Prop} (h : Stop p) : p := h.go

theorem heap_old (w : World) (o : Obj) (k : Nat) (h : k < w.heap.size) : (w.alloc o).heap[k]? = w.heap[k]? := Below.heap_alloc w o k h
theorem block_of_add (a : Addr) (n : Nat) : (a.add n).block = a.block := by unfold Addr.add; split <;> rfl
theorem add_lit0 (b o j : Nat) : (⟨b, o, none⟩ : Addr).add j = ⟨b, o + j, none⟩ := by
  unfold Addr.add; split <;> simp_all

/-- The slice value with address A and n elements (size cells each) reads as the cells xs, in a block below B. -/
def Reads (w : World) (B size : Nat) (A : Option Addr) (n : Nat) (xs : List Value) : Prop :=
  xs.length = n * size ∧ (0 < n → ∃ b off, A = some ⟨b, off, none⟩ ∧ b < B ∧ ∀ j u, xs[j]? = some u → w.cell? ⟨b, off + j, none⟩ = some u)

section
variable {w w' : World} {B B' size n : Nat} {A : Option Addr} {xs : List Value}
theorem Reads.none_ : Reads w B size A 0 [] := ⟨by simp, fun h => absurd h (by omega)⟩
theorem Reads.keep (h : Reads w B size A n xs) (hk : ∀ p : Addr, p.block < B → w'.cell? p = w.cell? p) : Reads w' B size A n xs :=
  ⟨h.1, fun hn => by
    obtain ⟨b, off, e, hb, hc⟩ := h.2 hn
    exact ⟨b, off, e, hb, fun j u hu => (hk _ hb).trans (hc j u hu)⟩⟩
theorem Reads.more (h : Reads w B size A n xs) (hB : B ≤ B') : Reads w B' size A n xs :=
  ⟨h.1, fun hn => by
    obtain ⟨b, off, e, hb, hc⟩ := h.2 hn
    exact ⟨b, off, e, by omega, hc⟩⟩
theorem Reads.below (h : Reads w B size A n xs) (hb : Below B w w') : Reads w' B size A n xs := h.keep fun _ hp => hb.cell hp
theorem Reads.drew (h : Reads w B size A n xs) : Reads w.drew B size A n xs := h
theorem Reads.drewN (h : Reads w B size A n xs) (k : Nat) : Reads (w.drewN k) B size A n xs := h
theorem Reads.alloc (h : Reads w B size A n xs) (hB : B ≤ w.heap.size) (o : Obj) : Reads (w.alloc o) B size A n xs := h.keep fun p hp => World.cell?_alloc_lt w o p (by omega)
theorem Reads.setCell (h : Reads w B size A n xs) {p : Addr} (hB : B ≤ p.block) (u : Value) : Reads (w.setCell p u) B size A n xs :=
  h.keep fun q hq => World.cell?_setCell_other w p q u (fun e => by subst e; omega)
theorem Reads.grown (h : Reads w B size A n xs) {row : Option Nat} (hg : w.grownBy w' row) (hB : B ≤ w.heap.size) (hr : ∀ g, row = some g → B ≤ g) : Reads w' B size A n xs :=
  h.keep fun p hp => World.cell?_of_block (hg.block p.block (by omega) (fun e => by have := hr _ e.symm; omega))
theorem Reads.cells (h : Reads w B size A n xs) {a : Addr} (hA : A = some a) : ∀ j u, xs[j]? = some u → w.cell? (a.add j) = some u := by
  intro j u hu
  have hj : j < xs.length := (List.getElem?_eq_some_iff.1 hu).1
  have hn : 0 < n := by
    rcases Nat.eq_zero_or_pos n with h0 | h0
    · have := h.1; subst h0; simp at this; subst this; simp at hj
    · exact h0
  obtain ⟨b, off, e, _, hc⟩ := h.2 hn
  rw [hA] at e
  injection e with e
  subst e
  rw [add_lit0]
  exact hc j u hu
theorem Reads.src {P : Program} {t e : TypeId} (h : Reads w B size A n xs) (ht : P.underlying t = some (.slice e)) (c : Nat) (h1 : ∀ u ∈ xs, u.oneCell' = true) : Src P size t (.slice A n c) n xs w := by
  cases A with
  | some a => exact Src.ofSlice w ht a n c xs h.1 (h.cells rfl) h1
  | none =>
    have hn : n = 0 := by
      rcases Nat.eq_zero_or_pos n with h0 | h0
      · exact h0
      · obtain ⟨b, off, e, _⟩ := h.2 h0
        cases e
    subst hn
    have : xs = [] := List.eq_nil_of_length_eq_zero (by simpa using h.1)
    subst this
    exact Src.ofNil w ht c
theorem Reads.of_own {base : Nat} {e : TypeId} {c : Nat} (h : w.ownsRow base e size (.slice A n c) n xs) : Reads w w.heap.size size A n xs := by
  refine ⟨h.1, fun hn => ?_⟩
  obtain ⟨g, cap, hv, _, hlt⟩ := h.form hn
  have hA : A = some ⟨g, 0, none⟩ := by injection hv
  subst hA
  refine ⟨g, 0, rfl, hlt, fun j u hu => ?_⟩
  have := h.cells (g := g) rfl j u hu
  rwa [add_lit0] at this
end

/-- An owned row's value is a slice of that length, which fits its capacity. -/
theorem own_slice {w : World} {base : Nat} {e : TypeId} {size n : Nat} {v : Value} {xs : List Value} (h : w.ownsRow base e size v n xs) :
    ∃ A c, v = .slice A n c ∧ n ≤ c ∧ Reads w w.heap.size size A n xs := by
  have h0 := h
  rcases h.2 with ⟨rfl, rfl⟩ | ⟨g, cap, cur, rfl, _, _, hc, _⟩
  · exact ⟨none, 0, rfl, Nat.le_refl _, Reads.of_own h0⟩
  · exact ⟨_, _, rfl, hc, Reads.of_own h0⟩

section
variable {P : Program} (w : World)

/-- append onto an owned row, from any source; and where the new row lies. -/
theorem run_append_any (base : Nat) (t tx ty e : TypeId) (i : TypeInfo) (z : Value) (size bytes : Nat) (ht : P.underlying t = some (.slice e)) (hi : P.info? e = some i) (hz : i.zero = some z)
    (hsize : i.size = size) (hby : i.bytes = bytes) (hzs : z.cells.size = size) (hsz : 0 < size)
    (v : Value) (n : Nat) (xs : List Value) (hown : w.ownsRow base e size v n xs)
    (x : Value) (m : Nat) (news : List Value) (hs : Src P size tx x m news w)
    (hbytes : (n + m) * bytes ≤ 140737488355328) (hb0 : 0 < bytes) (hbase : base ≤ w.heap.size) :
    ∃ v' w', (Builtin.append_ #[t, tx] ty #[v, x]).run P w = .ok v' w' ∧ w'.ownsRow base e size v' (n + m) (xs ++ news) ∧ w.grownBy w' v.ownBlock ∧
      (v'.ownBlock = v.ownBlock ∨ v'.ownBlock = some w.heap.size) := by
  subst hsize
  subst hby
  have h63 : n + m ≤ 140737488355328 := by
    have : (n + m) * 1 ≤ (n + m) * i.bytes := Nat.mul_le_mul_left _ hb0
    omega
  have hlen : (xs ++ news).length = (n + m) * i.size := by rw [List.length_append, hown.1, hs.newsLen, Nat.add_mul]
  have grown : ∀ (old : Nat), old < n + m → ∀ (row : Option Nat),
      (w.drew.alloc (.cells ((xs ++ news).toArray ++ Builtin.zeroCells z.cells (grownCap w (n + m) old e - (n + m))) e)).ownsRow base e i.size
        (.slice (some ⟨w.heap.size, 0, none⟩) (n + m) (grownCap w (n + m) old e)) (n + m) (xs ++ news) ∧
      w.grownBy (w.drew.alloc (.cells ((xs ++ news).toArray ++ Builtin.zeroCells z.cells (grownCap w (n + m) old e - (n + m))) e)) row := by
    intro old ho row
    have hge := grownCap_ge w (n + m) old e
    have hcm : grownCap w (n + m) old e ≤ maxLen := grownCap_le_maxLen w (n + m) old e (by unfold maxLen; omega)
    refine ⟨⟨hlen, .inr ⟨w.heap.size, _, _, rfl, hbase, heap_alloc_new w.drew _, hge, hcm, ?_, ?_⟩⟩, ⟨rfl, rfl, rfl, by simp, fun k hk _ => heap_old w.drew _ k hk⟩⟩
    · rw [Array.size_append, List.size_toArray, size_zeroCells, hzs, hlen, ← Nat.add_mul]
      congr 1
      omega
    · rw [Array.toList_append, ← hlen]
      exact List.take_left
  rcases hown.2 with ⟨rfl, rfl⟩ | ⟨g, cap, cur, rfl, hbg, hg, hnc, hcm, hcs, htake⟩
  · have hx : xs = [] := List.eq_nil_of_length_eq_zero (by simpa using hown.1)
    subst hx
    by_cases hm : m = 0
    · subst hm
      have hn : news = [] := List.eq_nil_of_length_eq_zero (by simpa using hs.newsLen)
      subst hn
      refine ⟨.slice none 0 0, w, ?_, World.ownsRow_nil w base e i.size, ⟨rfl, rfl, rfl, Nat.le_refl _, fun _ _ _ => rfl⟩, .inl rfl⟩
      have hl := hs.len w
      have hc := hs.cells
      rcases hs.kind with ⟨e', hk⟩ | hk <;> simp [Builtin.append_, run_underlying ht, run_underlying hk, sizeOf, typeInfo, hi, hl, hc]
    · have hr := run_append_grow_src (P := P) w t tx ty e i z ht hi hz none 0 0 [] (by simp [Builtin.firstCells]) x m news hs (by omega) (by omega) (by
        have hb := hbytes
        refine growslice_fits (by omega) hb)
      have hgr := grown 0 (by omega) (Value.ownBlock (.slice none 0 0))
      exact ⟨_, _, hr, hgr.1, hgr.2, .inr rfl⟩
  · by_cases hroom : n + m ≤ cap
    · have hfit : n * i.size + news.length ≤ cur.size := by rw [hs.newsLen, hcs, ← Nat.add_mul]; exact Nat.mul_le_mul_right _ hroom
      have hst := run_storeCells_at P g (n * i.size) e news 0 cur w hg (by simpa using hfit) hs.one
      simp only [Nat.add_zero] at hst
      have hr : (Builtin.append_ #[t, tx] ty #[.slice (some ⟨g, 0, none⟩) n cap, x]).run P w =
          .ok (.slice (some ⟨g, 0, none⟩) (n + m) cap) (w.setRow g (cur.toList.take (n * i.size) ++ news ++ cur.toList.drop (n * i.size + news.length)).toArray) := by
        have hl := hs.len w
        have hc := hs.cells
        rcases hs.kind with ⟨e', hk⟩ | hk <;> simp [Builtin.append_, run_underlying ht, run_underlying hk, sizeOf, typeInfo, hi, hl, hc, hroom, Addr.add_lit, hst]
      refine ⟨_, _, hr, ⟨hlen, .inr ⟨g, cap, _, rfl, hbg, setRow_heap w g cur _ e _ hg, hroom, hcm, ?_, ?_⟩⟩, ⟨rfl, rfl, rfl, by simp, fun k _ hk => setRow_other w g k _ (fun e => hk (by simp [Value.ownBlock, e]))⟩, .inl rfl⟩
      · simp only [List.size_toArray, List.length_append, List.length_take, List.length_drop, Array.length_toList]
        omega
      · rw [htake, ← hlen]
        exact List.take_left
    · have holds : ∀ j u, xs[j]? = some u → w.cell? ((⟨g, 0, none⟩ : Addr).add j) = some u := hown.cells (g := g) rfl
      have hr := run_append_grow_src (P := P) w t tx ty e i z ht hi hz (some ⟨g, 0, none⟩) n cap xs (run_firstCells_some w.drew i.size n ⟨g, 0, none⟩ n cap xs hown.1 (by simpa using holds)) x m news hs (by omega) (by omega) (growslice_fits (by omega) hbytes)
      have hgr := grown cap (by omega) (Value.ownBlock (.slice (some ⟨g, 0, none⟩) n cap))
      exact ⟨_, _, hr, hgr.1, hgr.2, .inr rfl⟩

theorem wp_append_any {o : Oper} {a : Act} {K : Act → World → Prop} {Q : Exit → Act → World → Prop} {s xo : Operand} {t tx : TypeId}
    (ho : o.op = .call { callee := .builtin .append, args := #[s, xo], argTypes := #[t, tx] })
    (base : Nat) {e : TypeId} {z : Value} {size bytes : Nat} (ht : P.underlying t = some (.slice e)) (hinfo : (P.info? e).map (fun i => (i.zero, i.size, i.bytes)) = some (some z, size, bytes))
    (hzs : z.cells.size = size) (hsz : 0 < size) (hb0 : 0 < bytes)
    {v : Value} {n : Nat} {xs : List Value} (hs : a.eval s = v) (hown : w.ownsRow base e size v n xs)
    {x : Value} {m : Nat} {news : List Value} (hx : a.eval xo = x) (hsrc : Src P size tx x m news w)
    (hbytes : (n + m) * bytes ≤ 140737488355328) (hbase : base ≤ w.heap.size)
    (h : ∀ v' w', w'.ownsRow base e size v' (n + m) (xs ++ news) → w.grownBy w' v.ownBlock → (v'.ownBlock = v.ownBlock ∨ v'.ownBlock = some w.heap.size) → K (a.put o.dst v') w') : o.wp P a w K Q := by
  obtain ⟨i, hi, hz, h4, h5⟩ := info_parts hinfo
  obtain ⟨v', w', hr, h2, h3, h4⟩ := run_append_any (P := P) w base t tx o.type e i z size bytes ht hi hz h4 h5 hzs hsz v n xs hown x m news hsrc hbytes hb0 hbase
  unfold Oper.wp execOp
  simp only [ho, resolve, invoke, builtin, Sem.run_bind, Sem.run_pure, Result.andThen_ok, List.map_toArray, List.map_cons, List.map_nil, hs, hx, hr]
  exact h v' w' h2 h3 h4

theorem wpList_append_any {ops : Array Oper} {rest : List Oper} {o : Oper} {a : Act} {Q : Exit → Act → World → Prop} {s xo : Operand} {t tx : TypeId} (hgd : o.guard = none)
    (ho : o.op = .call { callee := .builtin .append, args := #[s, xo], argTypes := #[t, tx] })
    (base : Nat) {e : TypeId} {z : Value} {size bytes : Nat} (ht : P.underlying t = some (.slice e)) (hinfo : (P.info? e).map (fun i => (i.zero, i.size, i.bytes)) = some (some z, size, bytes))
    (hzs : z.cells.size = size) (hsz : 0 < size) (hb0 : 0 < bytes)
    {v : Value} {n : Nat} {xs : List Value} (hs : a.eval s = v) (hown : w.ownsRow base e size v n xs)
    {x : Value} {m : Nat} {news : List Value} (hx : a.eval xo = x) (hsrc : Src P size tx x m news w)
    (hbytes : (n + m) * bytes ≤ 140737488355328) (hbase : base ≤ w.heap.size)
    (h : ∀ v' w', w'.ownsRow base e size v' (n + m) (xs ++ news) → w.grownBy w' v.ownBlock → (v'.ownBlock = v.ownBlock ∨ v'.ownBlock = some w.heap.size) → wpList P ops Q rest (a.put o.dst v') w') : wpList P ops Q (o :: rest) a w :=
  wpList_plain hgd fun _ hK => wp_append_any w ho base ht hinfo hzs hsz hb0 hs hown hx hsrc hbytes hbase fun v' w' h2 h3 h4 => hK _ _ (h v' w' h2 h3 h4)
end

/-- Bytes as cells. -/
def bys (l : List UInt8) : List Value := l.map fun b => Value.int .u8 b.toNat
theorem bys_length (l : List UInt8) : (bys l).length = l.length := by simp [bys]
theorem bys_append (a b : List UInt8) : bys (a ++ b) = bys a ++ bys b := by simp [bys]
theorem bys_one (l : List UInt8) : ∀ u ∈ bys l, u.oneCell' = true := by
  intro u hu
  obtain ⟨_, _, rfl⟩ := List.mem_map.1 hu
  rfl
theorem bys_get (l : List UInt8) (k : Nat) : (bys l)[k]? = (l[k]?).map fun b => Value.int .u8 b.toNat := by simp [bys]
theorem Try.info5 : (Try.prog.info? 5).map (fun i => (i.zero, i.size, i.bytes)) = some (some (.int .u8 0), 1, 1) := by kernel_rfl

/-- The slice value v reads as the bytes l, in blocks below B. -/
def BReads (w : World) (B : Nat) (A : Option Addr) (l : List UInt8) : Prop := Reads w B 1 A l.length (bys l)
/-- The bytes l, owned from block base on. -/
def BOwns (w : World) (base : Nat) (v : Value) (l : List UInt8) : Prop := w.ownsRow base 5 1 v l.length (bys l)

theorem BOwns.nil (w : World) (base : Nat) : BOwns w base (.slice none 0 0) [] := World.ownsRow_nil w base 5 1
theorem BOwns.slice {w : World} {base : Nat} {v : Value} {l : List UInt8} (h : BOwns w base v l) : ∃ A c, v = .slice A l.length c ∧ l.length ≤ c ∧ BReads w w.heap.size A l := own_slice h
theorem BReads.src {w : World} {B c : Nat} {A : Option Addr} {l : List UInt8} (h : BReads w B A l) : Src Try.prog 1 22 (.slice A l.length c) l.length (bys l) w :=
  Reads.src h Try.underlying22 c (bys_one l)
theorem BReads.at_ {w : World} {B : Nat} {A : Option Addr} {l : List UInt8} (h : BReads w B A l) {k : Nat} (hk : k < l.length) :
    ∃ b off, A = some ⟨b, off, none⟩ ∧ b < B ∧ w.cell? ⟨b, off + k, none⟩ = some (.int .u8 (l[k].toNat : Int)) := by
  obtain ⟨b, off, e, hb, hc⟩ := h.2 (by omega)
  exact ⟨b, off, e, hb, hc k _ (by rw [bys_get, List.getElem?_eq_getElem hk]; rfl)⟩
theorem BReads.all {w : World} {B : Nat} {A : Option Addr} {l : List UInt8} (h : BReads w B A l) (hl : 0 < l.length) :
    ∃ b off, A = some ⟨b, off, none⟩ ∧ b < B ∧ ∀ k, (hk : k < l.length) → w.cell? ⟨b, off + k, none⟩ = some (.int .u8 (l[k].toNat : Int)) := by
  obtain ⟨b, off, e, hb, hc⟩ := h.2 hl
  exact ⟨b, off, e, hb, fun k hk => hc k _ (by rw [bys_get, List.getElem?_eq_getElem hk]; rfl)⟩
theorem BOwns.of {w : World} {base n : Nat} {v : Value} {l : List UInt8} (h : w.ownsRow base 5 1 v n (bys l)) : BOwns w base v l := by
  have : n = l.length := by have := h.1; rw [bys_length] at this; omega
  subst this; exact h
theorem BReads.below {w w' : World} {B : Nat} {A : Option Addr} {l : List UInt8} (h : BReads w B A l) (hb : Below B w w') : BReads w' B A l := Reads.below h hb
theorem BReads.more {w : World} {B B' : Nat} {A : Option Addr} {l : List UInt8} (h : BReads w B A l) (hb : B ≤ B') : BReads w B' A l := Reads.more h hb
/-- append of bytes onto an owned row of bytes. -/
theorem append_bytes {w : World} {ops : Array Oper} {rest : List Oper} {o : Oper} {a : Act} {Q : Exit → Act → World → Prop} {s xo : Operand} {tx : TypeId} {base : Nat} {v : Value} {l m : List UInt8} {x : Value}
    (hown : BOwns w base v l) (hsrc : Src Try.prog 1 tx x m.length (bys m) w) (hbytes : l.length + m.length ≤ 140737488355328) (hbase : base ≤ w.heap.size)
    (hgd : o.guard = none) (ho : o.op = .call { callee := .builtin .append, args := #[s, xo], argTypes := #[22, tx] })
    (hs : a.eval s = v) (hx : a.eval xo = x)
    (h : ∀ v' w', BOwns w' base v' (l ++ m) → w.grownBy w' v.ownBlock → (v'.ownBlock = v.ownBlock ∨ v'.ownBlock = some w.heap.size) → wpList Try.prog ops Q rest (a.put o.dst v') w') : wpList Try.prog ops Q (o :: rest) a w :=
  wpList_append_any w hgd ho base Try.underlying22 Try.info5 rfl (by decide) (by decide) hs hown hx hsrc (by omega) hbase fun v' w' h1 h2 h3 => h v' w' (BOwns.of (by rw [bys_append]; exact h1)) h2 h3
theorem below_of_nil {w w' : World} (hg : w.grownBy w' (Value.ownBlock (.slice none 0 0))) : Below w.heap.size w w' := (Below.refl _ _).grown hg (Nat.le_refl _) (by simp [Value.ownBlock])
/-- The slice v lies in row 'row', or in a block that w did not have. -/
def OwnFrom (w : World) (row : Option Nat) (v : Value) : Prop := v.ownBlock = row ∨ ∀ k, v.ownBlock = some k → w.heap.size ≤ k
theorem OwnFrom.step {w wr : World} {row : Option Nat} {v v' : Value} (h : OwnFrom w row v) (hs : w.heap.size ≤ wr.heap.size) (h2 : v'.ownBlock = v.ownBlock ∨ v'.ownBlock = some wr.heap.size) : OwnFrom w row v' := by
  rcases h2 with h2 | h2
  · rcases h with h | h
    · exact .inl (h2.trans h)
    · exact .inr (fun k hk => h k (h2 ▸ hk))
  · exact .inr (fun k hk => by rw [h2] at hk; injection hk with hk; omega)
theorem grown_step {w wr w' : World} {row : Option Nat} {v : Value} (h : w.grownBy wr row) (hv : OwnFrom w row v) (h2 : wr.grownBy w' v.ownBlock) : w.grownBy w' row :=
  ⟨h2.os.trans h.os, h2.tape.trans h.tape, h2.output.trans h.output, Nat.le_trans h.size h2.size, fun k hk hne => (h2.block k (Nat.lt_of_lt_of_le hk h.size) (fun e => by
    rcases hv with hv | hv
    · exact hne (e.trans hv)
    · have := hv k e.symm; omega)).trans (h.block k hk hne)⟩
theorem grown_alloc {w wr : World} {row : Option Nat} (h : w.grownBy wr row) (o : Obj) : w.grownBy (wr.alloc o) row :=
  ⟨h.os, h.tape, h.output, Nat.le_trans h.size (by simp), fun k hk hne => (heap_old wr o k (Nat.lt_of_lt_of_le hk h.size)).trans (h.block k hk hne)⟩
theorem BOwns.alloc {w : World} {base : Nat} {v : Value} {l : List UInt8} (h : BOwns w base v l) (o : Obj) : BOwns (w.alloc o) base v l := World.ownsRow.alloc h o
theorem OwnFrom.alloc {w : World} {row : Option Nat} {v : Value} (o : Obj) (h : OwnFrom (w.alloc o) row v) : OwnFrom w row v := by
  rcases h with h | h
  · exact .inl h
  · exact .inr (fun k hk => by have := h k hk; simp at this; omega)
theorem grown_of_below {w w' : World} (hb : Below w.heap.size w w') (row : Option Nat) : w.grownBy w' row := ⟨hb.os, hb.tape, hb.output, hb.size, fun k hk _ => hb.block k hk⟩
theorem owns_below {w w' : World} {base : Nat} {e : TypeId} {size n : Nat} {v : Value} {xs : List Value} (h : w.ownsRow base e size v n xs) (hb : Below w.heap.size w w') : w'.ownsRow base e size v n xs :=
  World.ownsRow.kept h (grown_of_below hb none) (by cases v.ownBlock <;> simp)
theorem BOwns.below {w w' : World} {base : Nat} {v : Value} {l : List UInt8} (h : BOwns w base v l) (hb : Below w.heap.size w w') : BOwns w' base v l := owns_below h hb
end Go.Proofs.Ytmnpchncmbnddaa
/- How data of a Lean type lies in cells: numbers, bools, strings, bytes, slices, structs; and that whatever a row's reading of an argument meets is such data. -/
namespace Go.Proofs.Ytmnpchncmbnddaa
open Go.RowKit Go.ChangeShapes Go.WideShapes

/-- How data of a Lean type lies in cells: 'R w B a cs': the cells cs bear a, and all that they lead to lies below block B. -/
structure Kd (α : Type) where
  size : Nat
  R : World → Nat → α → List Value → Prop
  bulk : α → Nat
  fits : α → Prop
  len : ∀ {w : World} {B : Nat} {a : α} {cs : List Value}, R w B a cs → cs.length = size
  keep : ∀ {w w' : World} {B : Nat} {a : α} {cs : List Value}, R w B a cs → (∀ p : Addr, p.block < B → w'.cell? p = w.cell? p) → R w' B a cs
  more : ∀ {w : World} {B B' : Nat} {a : α} {cs : List Value}, R w B a cs → B ≤ B' → R w B' a cs

def kInt (k : IntKind) : Kd Int where
  size := 1
  R := fun _ _ n cs => cs = [.int k n] ∧ (Lit.int k n).wf = true
  bulk := fun _ => 1
  fits := fun _ => True
  len := fun h => by rw [h.1]; rfl
  keep := fun h _ => h
  more := fun h _ => h
def kBool : Kd Bool where
  size := 1
  R := fun _ _ b cs => cs = [.bool b]
  bulk := fun _ => 1
  fits := fun _ => True
  len := fun h => by rw [h]; rfl
  keep := fun h _ => h
  more := fun h _ => h
def kStr : Kd ByteArray where
  size := 1
  R := fun _ _ s cs => cs = [.string s]
  bulk := fun s => s.size + 1
  fits := fun s => s.size ≤ reachBytes
  len := fun h => by rw [h]; rfl
  keep := fun h _ => h
  more := fun h _ => h
def kBytes : Kd (List UInt8) where
  size := 1
  R := fun w B l cs => ∃ A c, cs = [.slice A l.length c] ∧ l.length ≤ c ∧ BReads w B A l
  bulk := fun l => l.length + 1
  fits := fun l => l.length ≤ reachBytes
  len := fun ⟨_, _, h, _⟩ => by rw [h]; rfl
  keep := fun ⟨A, c, h, hc, hr⟩ hk => ⟨A, c, h, hc, Reads.keep hr hk⟩
  more := fun ⟨A, c, h, hc, hr⟩ hB => ⟨A, c, h, hc, hr.more hB⟩
/-- The list's elements lie one behind the other from offset off on in block b. -/
def Kd.Row {α : Type} (K : Kd α) (w : World) (B b off : Nat) (l : List α) : Prop :=
  ∀ j x, l[j]? = some x → ∃ cs, K.R w B x cs ∧ ∀ t u, cs[t]? = some u → w.cell? ⟨b, off + j * K.size + t, none⟩ = some u
theorem Kd.Row.keep {α : Type} {K : Kd α} {w w' : World} {B b off : Nat} {l : List α} (h : K.Row w B b off l) (hb : b < B) (hk : ∀ p : Addr, p.block < B → w'.cell? p = w.cell? p) : K.Row w' B b off l :=
  fun j x hx => by
    obtain ⟨cs, hr, hc⟩ := h j x hx
    exact ⟨cs, K.keep hr hk, fun t u hu => (hk _ hb).trans (hc t u hu)⟩
def Kd.Sl {α : Type} (K : Kd α) (w : World) (B : Nat) (A : Option Addr) (l : List α) : Prop :=
  0 < l.length → ∃ b off, A = some ⟨b, off, none⟩ ∧ b < B ∧ K.Row w B b off l
theorem Kd.Sl.keep {α : Type} {K : Kd α} {w w' : World} {B : Nat} {A : Option Addr} {l : List α} (h : K.Sl w B A l) (hk : ∀ p : Addr, p.block < B → w'.cell? p = w.cell? p) : K.Sl w' B A l :=
  fun hl => by
    obtain ⟨b, off, hA, hb, hr⟩ := h hl
    exact ⟨b, off, hA, hb, hr.keep hb hk⟩
theorem Kd.Sl.below {α : Type} {K : Kd α} {w w' : World} {B : Nat} {A : Option Addr} {l : List α} (h : K.Sl w B A l) (hb : Below B w w') : K.Sl w' B A l := h.keep fun _ hp => hb.cell hp
theorem Kd.Sl.more {α : Type} {K : Kd α} {w : World} {B B' : Nat} {A : Option Addr} {l : List α} (h : K.Sl w B A l) (hB : B ≤ B') : K.Sl w B' A l :=
  fun hl => by
    obtain ⟨b, off, hA, hb, hr⟩ := h hl
    refine ⟨b, off, hA, by omega, fun j x hx => ?_⟩
    obtain ⟨cs, hr, hc⟩ := hr j x hx
    exact ⟨cs, K.more hr hB, hc⟩
def kSlice {α : Type} (K : Kd α) : Kd (List α) where
  size := 1
  R := fun w B l cs => ∃ A c, cs = [.slice A l.length c] ∧ l.length ≤ c ∧ K.Sl w B A l
  bulk := fun l => (l.map K.bulk).sum + 1
  fits := fun l => l.length ≤ reachBytes ∧ ∀ x ∈ l, K.fits x
  len := fun ⟨_, _, h, _⟩ => by rw [h]; rfl
  keep := fun ⟨A, c, h, hc, hr⟩ hk => ⟨A, c, h, hc, hr.keep hk⟩
  more := fun ⟨A, c, h, hc, hr⟩ hB => ⟨A, c, h, hc, hr.more hB⟩
def kPair {α β : Type} (K : Kd α) (L : Kd β) : Kd (α × β) where
  size := K.size + L.size
  R := fun w B x cs => ∃ c1 c2, cs = c1 ++ c2 ∧ K.R w B x.1 c1 ∧ L.R w B x.2 c2
  bulk := fun x => K.bulk x.1 + L.bulk x.2
  fits := fun x => K.fits x.1 ∧ L.fits x.2
  len := fun ⟨c1, c2, h, h1, h2⟩ => by rw [h, List.length_append, K.len h1, L.len h2]
  keep := fun ⟨c1, c2, h, h1, h2⟩ hk => ⟨c1, c2, h, K.keep h1 hk, L.keep h2 hk⟩
  more := fun ⟨c1, c2, h, h1, h2⟩ hB => ⟨c1, c2, h, K.more h1 hB, L.more h2 hB⟩
/-- The same under another name. -/
def kAs {α β : Type} (K : Kd α) (f : β → α) : Kd β where
  size := K.size
  R := fun w B x cs => K.R w B (f x) cs
  bulk := fun x => K.bulk (f x)
  fits := fun x => K.fits (f x)
  len := fun h => K.len h
  keep := fun h hk => K.keep h hk
  more := fun h hB => K.more h hB

/-- Whatever the row's reading meets at type T is data of this kind. -/
structure Opens {α : Type} (K : Kd α) (T : TypeId) : Prop where
  size : Try.prog.cellsOf T = K.size
  go : ∀ {H : Type} {enc : TypeId × Value → H} {w : World} {base fuel : Nat} {spare : Nat → Bool} {held : Bool} {cs : List Value} {x : DataW H × List MemPlace},
    DataW.trod enc Try.prog w base spare held fuel T cs = some x →
    ∃ a, K.R w w.heap.size a cs ∧ K.bulk a ≤ Rows.uptoBulk x.1 ∧ ((∀ n ∈ x.1.weights Try.prog T, n ≤ reachBytes) → K.fits a)

theorem opens_int {k : IntKind} {T : TypeId} (hs : Try.prog.cellsOf T = 1) (hu : Try.prog.underlying T = some (.int k)) : Opens (kInt k) T :=
  ⟨hs, fun h => by
    obtain ⟨n, rfl, rfl, hw⟩ := DataW.trod_int hu h
    exact ⟨n, ⟨rfl, hw⟩, by simp [kInt, Rows.uptoBulk], fun _ => trivial⟩⟩
theorem opens_bool {T : TypeId} (hs : Try.prog.cellsOf T = 1) (hu : Try.prog.underlying T = some .bool) : Opens kBool T :=
  ⟨hs, fun h => by
    obtain ⟨b, rfl, rfl⟩ := DataW.trod_bool hu h
    exact ⟨b, rfl, by simp [kBool, Rows.uptoBulk], fun _ => trivial⟩⟩
theorem opens_str {T : TypeId} (hs : Try.prog.cellsOf T = 1) (hu : Try.prog.underlying T = some .string) : Opens kStr T :=
  ⟨hs, fun h => by
    obtain ⟨s, rfl, rfl, _⟩ := DataW.trod_string hu h
    have e : s.data.toList.length = s.size := by rw [Array.length_toList]; rfl
    refine ⟨s, rfl, ?_, fun hw => ?_⟩
    · simp only [kStr, Rows.uptoBulk, e]; omega
    · have := hw s.data.toList.length (by simp [DataW.weights])
      rw [e] at this; exact this⟩

theorem bulk_one {H : Type} (d : DataW H) : 1 ≤ Rows.uptoBulk d := by
  cases d with
  | lit l => cases l <;> simp [Rows.uptoBulk]
  | nil => simp [Rows.uptoBulk]
  | ptr d => simp [Rows.uptoBulk]
  | slice elems spare => simp [Rows.uptoBulk]
  | agg parts => simp [Rows.uptoBulk]
  | iface t d => simp [Rows.uptoBulk]
  | map entries => simp [Rows.uptoBulk]
  | held h => simp [Rows.uptoBulk]
theorem bulk_length {H : Type} (l : List (DataW H)) : l.length ≤ Rows.uptoBulkAll l := by
  induction l with
  | nil => simp [Rows.uptoBulkAll]
  | cons x r ih => have := bulk_one x; simp only [Rows.uptoBulkAll, List.length_cons]; omega
theorem addr_none {w : World} {a : Addr} {v : Value} (h : w.cell? a = some v) : a.spot = none := World.cell?_spot h

theorem opens_bytes {T E : TypeId} (hs : Try.prog.cellsOf T = 1) (hu : Try.prog.underlying T = some (.slice E)) (he : Try.prog.underlying E = some (.int .u8)) (hc : Try.prog.cellsOf E = 1) (hb : Try.prog.bytesOf E = 1) : Opens kBytes T :=
  ⟨hs, fun {H enc w base fuel spare held cs x} h => by
    rcases open_ints hu he hc h with ⟨rfl, rfl⟩ | ⟨a, len, cap, zs, rfl, _, hl, _, hz, rfl, hcell, hwf⟩
    · exact ⟨[], ⟨none, 0, rfl, Nat.le_refl _, Reads.none_⟩, by simp [kBytes, Rows.uptoBulk], fun _ => by simp [kBytes]⟩
    · have hle : len ≤ zs.length := by rw [hz]; split <;> omega
      have hlen : ((zs.take len).map fun n => UInt8.ofNat n.toNat).length = len := by rw [List.length_map, List.length_take]; omega
      have hget : ∀ j, j < len → ((zs.take len).map fun n => UInt8.ofNat n.toNat)[j]? = some (UInt8.ofNat (zs.getD j 0).toNat) := by
        intro j hj
        have hj' : j < zs.length := by omega
        rw [List.getElem?_map, List.getElem?_take, if_pos hj, List.getD, List.getElem?_eq_getElem hj']; rfl
      refine ⟨(zs.take len).map fun n => UInt8.ofNat n.toNat, ⟨some a, cap, by rw [hlen], by rw [hlen]; exact hl, ?_⟩, ?_, fun hw => ?_⟩
      · refine ⟨by rw [bys_length, Nat.mul_one], fun hn => ?_⟩
        rw [hlen] at hn
        have h0 := hcell 0 (by omega)
        obtain ⟨b, off, spot⟩ := a
        have hsp : spot = none := by simpa [Addr.add] using addr_none h0
        subst hsp
        refine ⟨b, off, rfl, ?_, fun j u hu => ?_⟩
        · have := World.block_lt_of_cell? w _ h0
          rw [block_of_add] at this; exact this
        · have hj : j < len := by
            have := (List.getElem?_eq_some_iff.1 hu).1
            rw [bys_length, hlen] at this; exact this
          rw [bys_get, hget j hj] at hu
          have e := hcell j (by omega)
          rw [add_lit0] at e
          rw [e, ← hu]
          have hj' : j < zs.length := by omega
          have hw := hwf (zs.getD j 0) (by rw [List.getD, List.getElem?_eq_getElem hj']; exact List.getElem_mem hj')
          have hr : 0 ≤ zs.getD j 0 ∧ zs.getD j 0 ≤ 255 := by simpa [Lit.wf, IntKind.min, IntKind.max, IntKind.signed, IntKind.bits] using hw
          simp only [Option.map_some]
          rw [u8_int _ (by omega), Int.toNat_of_nonneg hr.1]
      · have := bulk_length (lits (H := H) .u8 (zs.take len))
        simp only [kBytes, Rows.uptoBulk, hlen]
        have e : (lits (H := H) .u8 (zs.take len)).length = len := by simp [lits]; omega
        omega
      · have := hw ((lits (H := H) .u8 (zs.take len)).length + (lits (H := H) .u8 (zs.drop len)).length) (by simp [DataW.weights, hu, hb])
        simp only [kBytes, hlen]
        have e : (lits (H := H) .u8 (zs.take len)).length = len := by simp [lits]; omega
        omega⟩

theorem weights_all_mem {H : Type} {P : Program} {e : TypeId} : ∀ {l : List (DataW H)} {j : Nat} {d : DataW H}, l[j]? = some d → ∀ n ∈ d.weights P e, n ∈ DataW.weightsAll P e l
  | d0 :: l, 0, d, hd, n, hn => by
    simp only [List.getElem?_cons_zero, Option.some.injEq] at hd; subst hd
    simp only [DataW.weightsAll, List.mem_append]; exact Or.inl hn
  | d0 :: l, j + 1, d, hd, n, hn => by
    simp only [List.getElem?_cons_succ] at hd
    simp only [DataW.weightsAll, List.mem_append]; exact Or.inr (weights_all_mem hd n hn)
  | [], _, _, hd, _, _ => by simp at hd
theorem choose_lt' {α : Type} {n : Nat} {p : Nat → α → Prop} (h : ∀ i, i < n → ∃ a, p i a) : ∃ l : List α, l.length = n ∧ ∀ i a, l[i]? = some a → p i a := by
  induction n with
  | zero => exact ⟨[], rfl, fun i a h => by simp at h⟩
  | succ n ih =>
    obtain ⟨l, hl, hp⟩ := ih (fun i hi => h i (by omega))
    obtain ⟨a, ha⟩ := h n (by omega)
    refine ⟨l ++ [a], by simp [hl], fun i x hx => ?_⟩
    by_cases hi : i < n
    · rw [List.getElem?_append_left (by omega)] at hx; exact hp i x hx
    · rw [List.getElem?_append_right (by omega)] at hx
      have : i - l.length = 0 := by
        have := (List.getElem?_eq_some_iff.1 hx).1
        simp at this; omega
      rw [this] at hx
      simp only [List.getElem?_cons_zero, Option.some.injEq] at hx
      subst hx
      have : i = n := by omega
      subst this; exact ha
theorem sum_bulk {α : Type} {H : Type} (f : α → Nat) : ∀ (l : List α) (ds : List (DataW H)), l.length ≤ ds.length → (∀ (i : Nat) (a : α) (d : DataW H), l[i]? = some a → ds[i]? = some d → f a ≤ Rows.uptoBulk d) → (l.map f).sum ≤ Rows.uptoBulkAll ds
  | [], _, _, _ => by simp
  | a :: l, [], h, _ => by simp at h
  | a :: l, d :: ds, h, hp => by
    have h1 := hp 0 a d rfl rfl
    have h2 := sum_bulk f l ds (by simpa using h) (fun i a d ha hd => hp (i + 1) a d (by simpa using ha) (by simpa using hd))
    simp only [List.map_cons, List.sum_cons, Rows.uptoBulkAll]; omega

theorem opens_slice {α : Type} {K : Kd α} {T E : TypeId} (hs : Try.prog.cellsOf T = 1) (hu : Try.prog.underlying T = some (.slice E)) (he : Opens K E) (hK : 0 < K.size) (hb : 0 < Try.prog.bytesOf E) : Opens (kSlice K) T :=
  ⟨hs, fun {H enc w base fuel spare held cs x} h => by
    rcases Go.Deep.open_slice hu h with ⟨rfl, rfl⟩ | ⟨a, len, cap, m, n, D, Pl, rfl, _, hl, _, hm, rfl, hx⟩
    · exact ⟨[], ⟨none, 0, rfl, Nat.le_refl _, fun h => absurd h (by simp)⟩, by simp [kSlice, Rows.uptoBulk], fun _ => by simp [kSlice]⟩
    · have hlm : len ≤ m := by rw [hm]; split <;> omega
      obtain ⟨l, hlen, hp⟩ := choose_lt' (n := len) (p := fun i y => (∃ cs', w.cells? base (a.add (i * Try.prog.cellsOf E)) (Try.prog.cellsOf E) = some cs' ∧ K.R w w.heap.size y cs') ∧ K.bulk y ≤ Rows.uptoBulk (D i) ∧ ((∀ n ∈ (D i).weights Try.prog E, n ≤ reachBytes) → K.fits y)) (fun i hi => by
        obtain ⟨cs', h1, h2⟩ := hx i (by omega)
        obtain ⟨y, r1, r2, r3⟩ := he.go h2
        exact ⟨y, ⟨cs', h1, r1⟩, r2, r3⟩)
      refine ⟨l, ⟨some a, cap, by rw [hlen], by rw [hlen]; exact hl, fun hpos => ?_⟩, ?_, fun hw => ?_⟩
      · have hcs : ∀ i, i < len → ∃ y cs', l[i]? = some y ∧ w.cells? base (a.add (i * K.size)) K.size = some cs' ∧ K.R w w.heap.size y cs' := by
          intro i hi
          have hg : l[i]? = some l[i] := List.getElem?_eq_getElem (by omega)
          obtain ⟨⟨cs', h1, h2⟩, _⟩ := hp i _ hg
          rw [he.size] at h1
          exact ⟨_, cs', hg, h1, h2⟩
        obtain ⟨y0, cs0, _, g0, r0⟩ := hcs 0 (by omega)
        have hlen0 := K.len r0
        obtain ⟨_, hl0, hc0⟩ := World.cells?_some g0
        have c0 := hc0 0 (by omega)
        obtain ⟨b, off, spot⟩ := a
        have e0 : w.cell? (((⟨b, off, spot⟩ : Addr).add (0 * K.size)).add 0) = some (cs0[0]'(by omega)) := by
          rw [c0]; exact List.getElem?_eq_getElem (by omega)
        have hsp : spot = none := by simpa [Addr.add] using addr_none e0
        subst hsp
        have hblt : b < w.heap.size := by
          have := World.block_lt_of_cell? w _ e0
          rw [block_of_add, block_of_add] at this; exact this
        refine ⟨b, off, rfl, hblt, fun j y hy => ?_⟩
        have hj : j < len := by have := (List.getElem?_eq_some_iff.1 hy).1; omega
        obtain ⟨y', cs', hy', h1, h2⟩ := hcs j hj
        rw [hy] at hy'
        injection hy' with hy'
        subst hy'
        refine ⟨cs', h2, fun t u hu => ?_⟩
        obtain ⟨_, hl', hc'⟩ := World.cells?_some h1
        have ht : t < K.size := by have := (List.getElem?_eq_some_iff.1 hu).1; rw [K.len h2] at this; exact this
        have := hc' t ht
        rw [add_lit0, add_lit0, hu] at this
        exact this
      · simp only [kSlice, Rows.uptoBulk]
        have := sum_bulk K.bulk l ((List.range len).map D) (by simp [hlen]) (fun i y d hy hd => by
          have hi : i < len := by have := (List.getElem?_eq_some_iff.1 hy).1; omega
          simp only [List.getElem?_map, List.getElem?_range hi, Option.map_some, Option.some.injEq] at hd
          subst hd
          exact (hp i y hy).2.1)
        omega
      · refine ⟨?_, ?_⟩
        · have h1 := hw ((((List.range len).map D).length + ((List.range (m - len)).map fun j => D (len + j)).length) * Try.prog.bytesOf E) (by simp [DataW.weights, hu])
          simp only [List.length_map, List.length_range] at h1
          rw [hlen]
          exact Nat.le_trans (Nat.le_trans (Nat.le_add_right _ _) (Nat.le_mul_of_pos_right _ hb)) h1
        intro y hy
        obtain ⟨i, hi⟩ := List.getElem?_of_mem hy
        have hil : i < len := by have := (List.getElem?_eq_some_iff.1 hi).1; omega
        refine (hp i y hi).2.2 fun n hn => hw n ?_
        simp only [DataW.weights, hu, List.mem_cons, List.mem_append]
        exact Or.inr (Or.inl (weights_all_mem (j := i) (by simp only [List.getElem?_map, List.getElem?_range hil, Option.map_some]) n hn))⟩

/-- The fields fs, from cell off on, one behind the other. -/
def OpensF {α : Type} (K : Kd α) (fs : List Field) (off : Nat) : Prop :=
  ∀ {H : Type} {enc : TypeId × Value → H} {w : World} {base fuel : Nat} {spare : Nat → Bool} {held : Bool} {cs : List Value} {xs : List (DataW H × List MemPlace)},
    (∀ (i : Nat) (f : Field), fs[i]? = some f → DataW.trod enc Try.prog w base spare held fuel f.type ((cs.drop f.offset).take (Try.prog.cellsOf f.type)) = xs[i]?) → xs.length = fs.length → cs.length = off + K.size →
    ∃ a, K.R w w.heap.size a (cs.drop off) ∧ K.bulk a ≤ Rows.uptoBulkAll (xs.map (·.1)) ∧ ((∀ n ∈ DataW.weightsEach Try.prog (fs.map (·.type)) (xs.map (·.1)), n ≤ reachBytes) → K.fits a)
theorem opensF_one {α : Type} {K : Kd α} {f : Field} {off : Nat} (h : Opens K f.type) (ho : f.offset = off) : OpensF K [f] off := by
  intro H enc w base fuel spare held cs xs hx hl hc
  match xs, hl with
  | [x], _ =>
    have h0 := hx 0 f rfl
    rw [h.size, ho, List.take_of_length_le (by rw [List.length_drop]; omega)] at h0
    obtain ⟨a, r1, r2, r3⟩ := h.go h0
    exact ⟨a, r1, by simpa [Rows.uptoBulkAll] using r2, fun hw => r3 fun n hn => hw n (by simp [DataW.weightsEach]; exact hn)⟩
theorem opensF_cons {α β : Type} {K : Kd α} {L : Kd β} {f : Field} {fs : List Field} {off : Nat} (h : Opens K f.type) (ho : f.offset = off) (hr : OpensF L fs (off + K.size)) : OpensF (kPair K L) (f :: fs) off := by
  intro H enc w base fuel spare held cs xs hx hl hc
  match xs, hl with
  | x :: xs, hl =>
    have h0 := hx 0 f rfl
    rw [h.size, ho] at h0
    obtain ⟨a, r1, r2, r3⟩ := h.go h0
    obtain ⟨b, s1, s2, s3⟩ := hr (cs := cs) (xs := xs) (fun i g hg => by simpa using hx (i + 1) g (by simpa using hg)) (by simpa using hl) (by rw [hc]; simp [kPair]; omega)
    refine ⟨(a, b), ⟨_, _, ?_, r1, s1⟩, ?_, fun hw => ⟨r3 fun n hn => hw n ?_, s3 fun n hn => hw n ?_⟩⟩
    · rw [← List.drop_drop, List.take_append_drop]
    · simp only [kPair, List.map_cons, Rows.uptoBulkAll]; omega
    · simp only [List.map_cons, DataW.weightsEach, List.mem_append]; exact Or.inl hn
    · simp only [List.map_cons, DataW.weightsEach, List.mem_append]; exact Or.inr hn
theorem opens_struct {α : Type} {K : Kd α} {T : TypeId} {fs : Array Field} (hs : Try.prog.cellsOf T = K.size) (hu : Try.prog.underlying T = some (.struct fs)) (hf : OpensF K fs.toList 0) : Opens K T :=
  ⟨hs, fun {H enc w base fuel spare held cs x} h => by
    obtain ⟨xs, n, rfl, rfl, hl, hlen, hx⟩ := DataW.trod_struct hu h
    obtain ⟨a, r1, r2, r3⟩ := hf (cs := cs) (xs := xs) (fun i f hi => hx i f (by simpa using hi)) (by simpa using hlen) (by rw [hl, hs]; omega)
    rw [List.drop_zero] at r1
    refine ⟨a, r1, ?_, fun hw => r3 fun n hn => hw n ?_⟩
    · simp only [Rows.uptoBulk]; omega
    · simp only [DataW.weights, hu]; exact hn⟩
theorem opens_as {α β : Type} {K : Kd α} {T : TypeId} (h : Opens K T) (f : β → α) (g : α → β) (hfg : ∀ a, f (g a) = a) : Opens (kAs K f) T :=
  ⟨h.size, fun ht => by
    obtain ⟨a, r1, r2, r3⟩ := h.go ht
    refine ⟨g a, ?_, ?_, ?_⟩ <;> simp only [kAs, hfg] <;> assumption⟩

/-- An argument, opened. -/
theorem Opens.arg {α : Type} {K : Kd α} {T : TypeId} (h : Opens K T) {H : Type} {enc : TypeId × Value → H} {w : World} {base : Nat} {spare : Nat → Bool} {held : Bool} {v : Value} {d : DataW H} {ps : List MemPlace}
    (ht : DataW.Trod enc Try.prog w base spare held T v d ps) : ∃ a, K.R w w.heap.size a v.cells.toList ∧ K.bulk a ≤ Rows.uptoBulk d ∧ ((∀ n ∈ d.weights Try.prog T, n ≤ reachBytes) → K.fits a) := by
  obtain ⟨fuel, hf⟩ := ht
  exact h.go hf
end Go.Proofs.Ytmnpchncmbnddaa
/- The Puts of package codec: own, short, PutInt, PutText, PutBytes, each by its contract. -/
namespace Go.Proofs.Ytmnpchncmbnddaa
open Go.RowKit

/-- The call answers the bytes l in new memory, and leaves what was there. -/
def GivesB (w : World) (l : List UInt8) (e : Ending) (w' : World) : Prop := ∃ v', e = .returned v' ∧ BOwns w' w.heap.size v' l ∧ Below w.heap.size w w'

/-- The call answers the bytes l in the row that v owned, or in new memory. -/
def GivesOn (base : Nat) (w : World) (v : Value) (l : List UInt8) (e : Ending) (w' : World) : Prop := ∃ v', e = .returned v' ∧ BOwns w' base v' l ∧ w.grownBy w' v.ownBlock ∧ OwnFrom w v.ownBlock v'

/-- A contract that gives bytes, ready for the walk: the value's shape and what was there. -/
theorem GivesB.out {w w' : World} {l : List UInt8} {e : Ending} (h : GivesB w l e w') : ∃ v', e = .returned v' ∧ BOwns w' w.heap.size v' l ∧ Below w.heap.size w w' := h
theorem GivesOn.out {base : Nat} {w w' : World} {v : Value} {l : List UInt8} {e : Ending} (h : GivesOn base w v l e w') : ∃ v', e = .returned v' ∧ BOwns w' base v' l ∧ w.grownBy w' v.ownBlock ∧ OwnFrom w v.ownBlock v' := h
end Go.Proofs.Ytmnpchncmbnddaa
/- codec.width and codec.Put at every kind: contracts (printed by a program of this claim's own). -/
namespace Go.Proofs.Ytmnpchncmbnddaa
open Go.RowKit
end Go.Proofs.Ytmnpchncmbnddaa
/- The reader's inner functions: reading$1 (the deferred closure), take. -/
namespace Go.Proofs.Ytmnpchncmbnddaa
open Go.RowKit

/-- Block g of w is just the cells cs of element type t, none of them frozen. -/
def Blk (w : World) (g : Nat) (t : TypeId) (cs : Array Value) : Prop := w.heap[g]? = some (.cells cs t (0, 0))
section
variable {w w' : World} {g : Nat} {t : TypeId} {cs : Array Value}
theorem Blk.lt (h : Blk w g t cs) : g < w.heap.size := by
  rcases Nat.lt_or_ge g w.heap.size with hlt | hge
  · exact hlt
  · unfold Blk at h; rw [Array.getElem?_eq_none hge] at h; cases h
theorem Blk.cell (h : Blk w g t cs) (i : Nat) : w.cell? ⟨g, i, none⟩ = cs[i]? := cell_of_row w g i cs t (0, 0) h
theorem Blk.frozen (h : Blk w g t cs) (i : Nat) : w.frozen? ⟨g, i, none⟩ = false := by
  unfold Blk at h
  simp [World.frozen?, h]
theorem Blk.new (w : World) (t : TypeId) (cs : Array Value) : Blk (w.alloc (.cells cs t)) w.heap.size t cs := heap_alloc_new w _
theorem Blk.drewN (h : Blk w g t cs) (n : Nat) : Blk (w.drewN n) g t cs := h
theorem Blk.alloc (h : Blk w g t cs) (o : Obj) : Blk (w.alloc o) g t cs := (Below.heap_alloc w o g h.lt).trans h
theorem Blk.set_ (h : Blk w g t cs) (i : Nat) (u : Value) : Blk (w.setCell ⟨g, i, none⟩ u) g t (cs.setIfInBounds i u) := by
  unfold Blk at h ⊢
  simp [World.setCell, Array.getElem?_modify, h]
theorem Blk.far (h : Blk w g t cs) {p : Addr} (hp : g ≠ p.block) (u : Value) : Blk (w.setCell p u) g t cs := (Below.heap_setCell w p u g hp).trans h
theorem Blk.below {B : Nat} (h : Blk w g t cs) (hb : Below B w w') (hg : g < B) : Blk w' g t cs := (hb.block g hg).trans h
end

/-- The slice A of the bytes l lies in a block of bytes. -/
def Ours (w : World) (A : Option Addr) (l : List UInt8) : Prop := 0 < l.length → ∃ b o cur fr, A = some ⟨b, o, none⟩ ∧ w.heap[b]? = some (.cells cur 5 fr)
theorem Ours.keep {w w' : World} {B : Nat} {A : Option Addr} {l : List UInt8} (h : Ours w A l) (hr : BReads w B A l) (hk : ∀ i, i < B → w'.heap[i]? = w.heap[i]?) : Ours w' A l := fun hp => by
  obtain ⟨b, o, cur, fr, e, hh⟩ := h hp
  obtain ⟨b', o', e', hb, _⟩ := hr.2 hp
  rw [e] at e'
  injection e' with e'
  injection e' with e' _ _
  subst e'
  exact ⟨b, o, cur, fr, e, (hk b hb).trans hh⟩
/-- A reader in block g: its bytes (the slice A of capacity c, which reads as l), its place, its fault. -/
structure RdAt (w : World) (g : Nat) (A : Option Addr) (c : Nat) (l : List UInt8) (at_ : Nat) (fault : Int) : Prop where
  blk : Blk w g 165 #[.slice A l.length c, .int .i64 at_, .int .i64 fault]
  reads : BReads w g A l
  cap : l.length ≤ c
  le : at_ ≤ l.length
  small : l.length ≤ 140737488355328
  ours : Ours w A l

theorem RdAt.drewN {w : World} {g : Nat} {A : Option Addr} {c : Nat} {l : List UInt8} {at_ : Nat} {f : Int} (h : RdAt w g A c l at_ f) (m : Nat) : RdAt (w.drewN m) g A c l at_ f := ⟨h.blk, h.reads, h.cap, h.le, h.small, h.ours⟩
end Go.Proofs.Ytmnpchncmbnddaa
/- Plain words on reading short forms. No program in sight. -/
namespace Go.Proofs.Ytmnpchncmbnddaa
open Go.RowKit

/-- What a short form comes to, from its i-th byte on, u being what stood ahead: the error, or the fold and the number of its bytes. -/
def scan (i u : Nat) : List UInt8 → Except Int (Nat × Nat)
  | [] => .error 20
  | b :: r =>
    if i = 9 ∧ 1 < b.toNat then .error 21
    else if 128 ≤ b.toNat then scan (i + 1) (u + b.toNat % 128 * 128 ^ i) r
    else if b.toNat = 0 ∧ 0 < i then .error 21
    else .ok (u + b.toNat % 128 * 128 ^ i, i + 1)
/-- The number whose fold this is. -/
def unfoldI (u : Nat) : Int := if u % 2 = 0 then (u / 2 : Nat) else -((u / 2 : Nat) : Int) - 1
def numberF (low high : Int) (l : List UInt8) : Except Int (Int × Nat) :=
  if high < low then .error 2 else
  match scan 0 0 l with
  | .error e => .error e
  | .ok (u, k) => if unfoldI u < low ∨ high < unfoldI u then .error 21 else .ok (unfoldI u, k)
def blockF (most : Int) (l : List UInt8) : Except Int (List UInt8 × Nat) :=
  if most < 0 then .error 2 else
  match numberF 0 most l with
  | .error e => .error e
  | .ok (n, k) => if (l.length : Int) - k < n then .error 20 else .ok ((l.drop k).take n.toNat, k + n.toNat)

/-- The number that bytes say, the highest first. -/
def beVal (l : List UInt8) : Nat := l.foldl (fun v b => v * 256 + b.toNat) 0
def takeF (n : Nat) (l : List UInt8) : Except Int (Nat × Nat) := if l.length < n then .error 20 else .ok (beVal (l.take n), n)
end Go.Proofs.Ytmnpchncmbnddaa
/- The reader's inner functions: number, block. -/
namespace Go.Proofs.Ytmnpchncmbnddaa
open Go.RowKit

end Go.Proofs.Ytmnpchncmbnddaa
/- The reader's inner function block; reading. -/
namespace Go.Proofs.Ytmnpchncmbnddaa
open Go.RowKit

end Go.Proofs.Ytmnpchncmbnddaa
/- reading: the deferred closure that recovers; by a contract for whatever closure it calls. -/
namespace Go.Proofs.Ytmnpchncmbnddaa
open Go.RowKit

/-- w' is w with new blocks, and with writes to the blocks of S alone. -/
structure Keeps (S : Nat → Prop) (w w' : World) : Prop where
  os : w'.os = w.os
  tape : w'.tape = w.tape
  output : w'.output = w.output
  size : w.heap.size ≤ w'.heap.size
  block : ∀ k, k < w.heap.size → ¬ S k → w'.heap[k]? = w.heap[k]?
theorem Keeps.refl (S : Nat → Prop) (w : World) : Keeps S w w := ⟨rfl, rfl, rfl, Nat.le_refl _, fun _ _ _ => rfl⟩
theorem Keeps.trans {S S' : Nat → Prop} {a b c : World} (h : Keeps S a b) (k : Keeps S' b c) (hs : ∀ i, S' i → S i ∨ a.heap.size ≤ i) : Keeps S a c :=
  ⟨k.os.trans h.os, k.tape.trans h.tape, k.output.trans h.output, Nat.le_trans h.size k.size, fun i hi hn => (k.block i (Nat.lt_of_lt_of_le hi h.size) (fun e => (hs i e).elim hn (fun h => by omega))).trans (h.block i hi hn)⟩
theorem Keeps.of_grown {w w' : World} {row : Option Nat} (h : w.grownBy w' row) : Keeps (fun k => some k = row) w w' := ⟨h.os, h.tape, h.output, h.size, fun k hk hn => h.block k hk hn⟩
theorem Keeps.of_below {w w' : World} (h : Below w.heap.size w w') (S : Nat → Prop) : Keeps S w w' := ⟨h.os, h.tape, h.output, h.size, fun k hk _ => h.block k hk⟩
theorem Keeps.mono {S S' : Nat → Prop} {w w' : World} (h : Keeps S w w') (hs : ∀ i, S i → S' i ∨ w.heap.size ≤ i) : Keeps S' w w' :=
  ⟨h.os, h.tape, h.output, h.size, fun i hi hn => h.block i hi (fun e => (hs i e).elim hn (fun h => by omega))⟩
theorem Keeps.below {S : Nat → Prop} {w w' : World} {B : Nat} (h : Keeps S w w') (hB : B ≤ w.heap.size) (hs : ∀ i, S i → B ≤ i) : Below B w w' :=
  ⟨h.os, h.tape, h.output, h.size, fun k hk => h.block k (by omega) (fun e => by have := hs k e; omega)⟩
theorem Keeps.alloc {S : Nat → Prop} {a w : World} (h : Keeps S a w) (o : Obj) : Keeps S a (w.alloc o) :=
  ⟨h.os, h.tape, h.output, Nat.le_trans h.size (by simp), fun k hk hn => (heap_old w o k (Nat.lt_of_lt_of_le hk h.size)).trans (h.block k hk hn)⟩
theorem Keeps.setCell {S : Nat → Prop} {a w : World} (h : Keeps S a w) {p : Addr} (hp : S p.block ∨ a.heap.size ≤ p.block) (u : Value) : Keeps S a (w.setCell p u) :=
  ⟨h.os, h.tape, h.output, by simpa [World.setCell] using h.size, fun k hk hn => (Below.heap_setCell w p u k (fun e => by subst e; exact hp.elim hn (fun h => by omega))).trans (h.block k hk hn)⟩
theorem Keeps.drewN {S : Nat → Prop} {a w : World} (h : Keeps S a w) (m : Nat) : Keeps S a (w.drewN m) := ⟨h.os, h.tape, h.output, h.size, h.block⟩
theorem Blk.keeps {S : Nat → Prop} {w w' : World} {g : Nat} {t : TypeId} {cs : Array Value} (h : Blk w g t cs) (hk : Keeps S w w') (hg : ¬ S g) : Blk w' g t cs := (hk.block g h.lt hg).trans h
theorem RdAt.keeps {S : Nat → Prop} {w w' : World} {g : Nat} {A : Option Addr} {c : Nat} {l : List UInt8} {at_ : Nat} {f : Int} (h : RdAt w g A c l at_ f) (hk : Keeps S w w') (hs : ∀ i, S i → g < i) : RdAt w' g A c l at_ f :=
  ⟨h.blk.keeps hk (fun e => by have := hs _ e; omega), h.reads.below (hk.below (Nat.le_of_lt h.blk.lt) (fun i hi => Nat.le_of_lt (hs i hi))), h.cap, h.le, h.small, h.ours.keep h.reads (fun i hi => hk.block i (Nat.lt_trans hi h.blk.lt) (fun e => by have := hs i e; omega))⟩
end Go.Proofs.Ytmnpchncmbnddaa
/- The reader's methods Int, Bytes, Text, Left, Fault, End, Open: by contract, against a plain reader. -/
namespace Go.Proofs.Ytmnpchncmbnddaa
open Go.RowKit

/-- The plain reader: bytes, a place, a fault. -/
structure Rd where
  l : List UInt8
  at_ : Nat
  f : Int
def Rd.step {α : Type} (r : Rd) (none : α) (x : Except Int (α × Nat)) : α × Rd :=
  if r.f = 0 then
    match x with
    | .ok (a, k) => (a, { r with at_ := r.at_ + k })
    | .error m => (none, { r with f := m })
  else (none, r)
def Rd.int (r : Rd) (low high : Int) : Int × Rd := r.step 0 (numberF low high (r.l.drop r.at_))
def Rd.take (r : Rd) (n : Nat) : Nat × Rd := r.step 0 (takeF n (r.l.drop r.at_))
def Rd.bytes (r : Rd) (most : Int) : List UInt8 × Rd := r.step [] (blockF most (r.l.drop r.at_))
theorem owns_less {w : World} {base base' : Nat} {v : Value} {l : List UInt8} (h : BOwns w base v l) (hb : base' ≤ base) : BOwns w base' v l := by
  refine ⟨h.1, ?_⟩
  rcases h.2 with h2 | ⟨g, cap, cur, hv, hg, r⟩
  · exact .inl h2
  · exact .inr ⟨g, cap, cur, hv, Nat.le_trans hb hg, r⟩

/-- Block g of w is the reader r. -/
def RdIs (w : World) (g : Nat) (r : Rd) : Prop := ∃ A c, RdAt w g A c r.l r.at_ r.f
theorem RdIs.keeps {S : Nat → Prop} {w w' : World} {g : Nat} {r : Rd} (h : RdIs w g r) (hk : Keeps S w w') (hs : ∀ i, S i → g < i) : RdIs w' g r := by
  obtain ⟨A, c, h⟩ := h; exact ⟨A, c, h.keeps hk hs⟩
theorem RdIs.lt {w : World} {g : Nat} {r : Rd} (h : RdIs w g r) : g < w.heap.size := by obtain ⟨A, c, h⟩ := h; exact h.blk.lt
theorem RdIs.below {w w' : World} {g : Nat} {r : Rd} (h : RdIs w g r) (hb : Below w.heap.size w w') : RdIs w' g r := h.keeps (Keeps.of_below hb (fun _ => False)) (fun _ h => h.elim)
theorem foldl_push (p : List UInt8) : ∀ s : ByteArray, (p.map fun b => (b.toNat : Int)).foldl (fun r n => r.push (UInt8.ofNat n.toNat)) s = ⟨s.data ++ p.toArray⟩ := by
  induction p with
  | nil => intro s; simp
  | cons b p ih =>
    intro s
    simp only [List.map_cons, List.foldl_cons, ih, Int.toNat_natCast, UInt8.ofNat_toNat]
    congr 1
    show s.data.push b ++ p.toArray = _
    rw [Array.push_eq_append, Array.append_assoc]
    congr 1
    apply Array.ext'
    simp
/-- 'string(b)' of bytes. -/
theorem conv_text {w : World} {B : Nat} {A : Option Addr} {p : List UInt8} (h : BReads w B A p) (c : Nat) :
    (convert 22 9 (.slice A p.length c)).run Try.prog w = .ok (.string ⟨p.toArray⟩) w := by
  rw [run_convert_bytes_string w _ _ 5 A _ c Try.underlying22 Try.underlying5 Try.underlying9]
  cases A with
  | none =>
    have : p = [] := by
      rcases Nat.eq_zero_or_pos p.length with h0 | h0
      · exact List.eq_nil_of_length_eq_zero h0
      · obtain ⟨b, off, e, _⟩ := h.2 h0; cases e
    subst this
    rfl
  | some a =>
    have hf := run_firstCells_some (P := Try.prog) w 1 p.length a p.length c (bys p) h.1 (h.cells rfl)
    have hl : (loadCells a p.length).run Try.prog w = .ok (((p.map fun b => (b.toNat : Int)).map (Value.int .u8)).toArray) w := by
      have e : ((p.map fun b => (b.toNat : Int)).map (Value.int .u8)) = bys p := by simp [bys]
      rw [e]
      simpa [Builtin.firstCells] using hf
    rw [run_bytesToString w a p.length c _ hl, foldl_push]
    rw [show (ByteArray.empty.data ++ p.toArray) = p.toArray from by simp [ByteArray.empty, ByteArray.emptyWithCapacity]; rfl]
/-- What a method of a reader leaves: what it answers, the reader behind it, all else as it was. -/
def RdPost {α : Type} (w : World) (g : Nat) (x : α × Rd) (ans : α → Ending → World → Prop) (e : Ending) (w' : World) : Prop :=
  ans x.1 e w' ∧ RdIs w' g x.2 ∧ Keeps (fun k => k = g) w w'
theorem RdPost.out {α : Type} {w : World} {g : Nat} {x : α × Rd} {ans : α → Ending → World → Prop} {e : Ending} {w' : World} (h : RdPost w g x ans e w') : ans x.1 e w' ∧ RdIs w' g x.2 ∧ Keeps (fun k => k = g) w w' := h

theorem callFunc_enter (F : FuncId) (fn : Func) (c : Code) (hf : Try.prog.funcs[F]? = some fn) (hb : fn.body = some c) (hn : (fn.name == "runtime.NumGoroutine") = false) (caps : Array Value) (w : World) : (callFunc F caps).run Try.prog w = .ok (.enter F caps) w := by
  have hn' : ¬ fn.name = "runtime.NumGoroutine" := by simpa using hn
  simp [callFunc, hf, hb, hn']
theorem RdAt.alloc {w : World} {g : Nat} {A : Option Addr} {c : Nat} {l : List UInt8} {at_ : Nat} {f : Int} (h : RdAt w g A c l at_ f) (o : Obj) : RdAt (w.alloc o) g A c l at_ f :=
  h.keeps ((Keeps.refl (fun _ => False) w).alloc o) (fun _ h => h.elim)
theorem RdAt.below {w w' : World} {g : Nat} {A : Option Addr} {c : Nat} {l : List UInt8} {at_ : Nat} {f : Int} (h : RdAt w g A c l at_ f) (hb : Below w.heap.size w w') : RdAt w' g A c l at_ f :=
  h.keeps (Keeps.of_below hb (fun _ => False)) (fun _ h => h.elim)
theorem Blk.below' {w w' : World} {g : Nat} {t : TypeId} {cs : Array Value} (h : Blk w g t cs) (hb : Below w.heap.size w w') : Blk w' g t cs := h.below hb h.lt
theorem RdAt.drew {w : World} {g : Nat} {A : Option Addr} {c : Nat} {l : List UInt8} {at_ : Nat} {f : Int} (h : RdAt w g A c l at_ f) : RdAt w.drew g A c l at_ f := ⟨h.blk, h.reads, h.cap, h.le, h.small, h.ours⟩
end Go.Proofs.Ytmnpchncmbnddaa
/- The reader's Open, Left, Fault, End: contracts; and a reader that is not there. -/
namespace Go.Proofs.Ytmnpchncmbnddaa
open Go.RowKit

def Rd.left (r : Rd) : Int := (r.l.length : Int) - r.at_
def Rd.end_ (r : Rd) : Int := if r.f = 0 then (if 0 < r.left then 22 else 0) else r.f

theorem BOwns.keeps {S : Nat → Prop} {w w' : World} {base : Nat} {v : Value} {l : List UInt8} (h : BOwns w base v l) (hk : Keeps S w w') (hs : ∀ i, base ≤ i → ¬ S i) : BOwns w' base v l := by
  refine ⟨h.1, ?_⟩
  rcases h.2 with h2 | ⟨g, cap, cur, hv, hg, hh, r⟩
  · exact .inl h2
  · have hb : Blk w g 5 cur := hh
    exact .inr ⟨g, cap, cur, hv, hg, hb.keeps hk (hs g hg), r⟩
/-- What the call owns, read: below the blocks that w had not yet. -/
theorem BOwns.lies {w w' : World} {base n c : Nat} {A : Option Addr} {l : List UInt8} (h : BOwns w base (.slice A n c) l) (h' : BOwns w' base (.slice A n c) l) : BReads w' w.heap.size A l := by
  refine ⟨by rw [bys_length, Nat.mul_one], fun hp => ?_⟩
  rcases h.2 with ⟨_, h2⟩ | ⟨g, cap, cur, hv, hg, hh, _⟩
  · omega
  · have hlt : g < w.heap.size := by have hb : Blk w g 5 cur := hh; exact hb.lt
    obtain ⟨A', c', e, _, hr⟩ := h'.slice
    injection e with e1 _ _
    injection hv with e2 _ _
    subst e1
    obtain ⟨b, off, e3, _, hc⟩ := hr.2 hp
    rw [e2] at e3
    injection e3 with e3
    injection e3 with e4 e5
    subst e4; subst e5
    exact ⟨g, 0, e2, hlt, hc⟩

theorem BOwns.ours {w : World} {base n c : Nat} {A : Option Addr} {l : List UInt8} (h : BOwns w base (.slice A n c) l) : Ours w A l := fun hp => by
  rcases h.2 with ⟨_, h2⟩ | ⟨g, cap, cur, hv, hg, hh, _⟩
  · omega
  · injection hv with e _ _
    exact ⟨g, 0, cur, _, e, hh⟩

/-- A new reader, in new memory. -/
def Opened (w : World) (l : List UInt8) (e : Ending) (w' : World) : Prop := ∃ g, e = .returned (.pointer (some ⟨g, 0, none⟩)) ∧ w.heap.size ≤ g ∧ (∀ w'', Keeps (fun k => k < w.heap.size) w' w'' → RdIs w'' g ⟨l, 0, 0⟩) ∧ Below w.heap.size w w'
theorem Opened.out {w : World} {l : List UInt8} {e : Ending} {w' : World} (h : Opened w l e w') : ∃ g, e = .returned (.pointer (some ⟨g, 0, none⟩)) ∧ w.heap.size ≤ g ∧ RdIs w' g ⟨l, 0, 0⟩ ∧ Below w.heap.size w w' := by
  obtain ⟨g, e, hg, hr, hb⟩ := h
  exact ⟨g, e, hg, hr _ (Keeps.refl _ _), hb⟩
theorem Opened.all {w : World} {l : List UInt8} {e : Ending} {w' : World} (h : Opened w l e w') : ∃ g, e = .returned (.pointer (some ⟨g, 0, none⟩)) ∧ w.heap.size ≤ g ∧ g < w'.heap.size ∧ Hid (∀ w'', Keeps (fun k => k < w.heap.size) w' w'' → RdIs w'' g ⟨l, 0, 0⟩) ∧ Below w.heap.size w w' := by
  obtain ⟨g, e, hg, hr, hb⟩ := h
  exact ⟨g, e, hg, (hr _ (Keeps.refl _ _)).lt, Lib.hid hr, hb⟩

end Go.Proofs.Ytmnpchncmbnddaa
/- Bytes that the call owns, written one by one. -/
namespace Go.Proofs.Ytmnpchncmbnddaa
open Go.RowKit

/-- The block of bytes that the call owns. -/
theorem BOwns.block {w : World} {base n c : Nat} {A : Option Addr} {l : List UInt8} (h : BOwns w base (.slice A n c) l) (hp : 0 < l.length) :
    ∃ g, A = some ⟨g, 0, none⟩ ∧ base ≤ g ∧ g < w.heap.size ∧ (∀ i, w.frozen? ⟨g, i, none⟩ = false) ∧ ∀ i, (hi : i < l.length) → w.cell? ⟨g, i, none⟩ = some (.int .u8 (l[i].toNat : Int)) := by
  rcases h.2 with ⟨_, h2⟩ | ⟨g, cap, cur, hv, hg, hh, r⟩
  · omega
  · injection hv with e1 _ _
    subst e1
    have hb : Blk w g 5 cur := hh
    obtain ⟨A', c', e, _, hr⟩ := BOwns.slice h
    injection e with e2 _ _
    subst e2
    refine ⟨g, rfl, hg, hb.lt, fun i => hb.frozen i, fun i hi => ?_⟩
    obtain ⟨b, off, e3, _, hc⟩ := BReads.at_ hr hi
    injection e3 with e3
    injection e3 with e4 e5
    subst e4; subst e5
    rw [Nat.zero_add] at hc
    exact hc
theorem BOwns.store {w : World} {base g n c i : Nat} {l : List UInt8} (h : BOwns w base (.slice (some ⟨g, 0, none⟩) n c) l) (hi : i < l.length) (x : UInt8) :
    BOwns (w.setCell ⟨g, i, none⟩ (.int .u8 (x.toNat : Int))) base (.slice (some ⟨g, 0, none⟩) n c) (l.set i x) := by
  refine ⟨by rw [bys_length, Nat.mul_one], ?_⟩
  rcases h.2 with ⟨h1, h2⟩ | ⟨g', cap, cur, hv, hg, hh, hn, hcm, hs, ht⟩
  · omega
  · injection hv with e1 e2 e3
    injection e1 with e1
    injection e1 with e1 _ _
    subst e1; subst e3
    rw [List.length_set]
    refine .inr ⟨g, c, cur.setIfInBounds i (.int .u8 (x.toNat : Int)), by rw [e2], hg, ?_, hn, hcm, by simpa using hs, ?_⟩
    · have hb : Blk w g 5 cur := hh
      exact hb.set_ i _
    · rw [Nat.mul_one] at ht ⊢
      rw [Array.toList_setIfInBounds, List.take_set, ht]
      simp [bys, List.map_set]
end Go.Proofs.Ytmnpchncmbnddaa
/- slices.Equal of bytes, by its contract. -/
namespace Go.Proofs.Ytmnpchncmbnddaa
open Go.RowKit

/-- The call answers the bool b and turns no memory. -/
def SaysB (w : World) (b : Bool) (e : Ending) (w' : World) : Prop := e = .returned (.bool b) ∧ ∃ m, w' = w.drewN m
theorem SaysB.out {w w' : World} {b : Bool} {e : Ending} (h : SaysB w b e w') : e = .returned (.bool b) ∧ ∃ m, w' = w.drewN m := h

end Go.Proofs.Ytmnpchncmbnddaa
