/- Contracts and plain laws that this claim leans on, laid together: Plain, Base, Kd, Codec1, PutN, Rdr1. -/
import Derived.Laws.BitsAllLaws
import Derived.Laws.BitsLemmas
import Derived.RowKit
import Derived.Test.YtmnpchncmbnddaaGreatProg
import Derived.WalkKit
import Derived.WalkLawsBesides
import Derived.WalkSpells
import Derived.Deep.AppendSrc
import Derived.Deep.AppendLies
import Derived.Deep.Draws
import Derived.Maps.AppendAt
import Derived.Lib.Hide
import Derived.Lib.SlBytesConst
import Derived.Lib.ConvBytes
import Derived.KernelRfl
import Derived.Test.YtmnpchncmbnddaaGreatRows
import Derived.ProofKit
import Derived.Deep.Slices
import Derived.SizedLaws
import Derived.ChangeSlices
import Derived.Recover
import Derived.Deep.QuietTactic
import Derived.BigQuiet
set_option linter.all false
set_option linter.unusedVariables false
set_option linter.unusedSimpArgs false
set_option linter.unnecessarySimpa false
/- Plain words on bytes and numbers: the short form, the fold, fixed widths. No program in sight. -/
namespace Go.Proofs.YtmnpchncmbnddaaGreat
open Go.RowKit

/-- The short form of a fold. -/
def shortF (u : Nat) : List UInt8 := if u < 128 then [UInt8.ofNat u] else UInt8.ofNat (u % 128 + 128) :: shortF (u / 128)
termination_by u
decreasing_by omega
theorem shortF_small {u : Nat} (h : u < 128) : shortF u = [UInt8.ofNat u] := by unfold shortF; rw [if_pos h]
theorem shortF_big {u : Nat} (h : 128 ≤ u) : shortF u = UInt8.ofNat (u % 128 + 128) :: shortF (u / 128) := by
  conv => lhs; unfold shortF
  rw [if_neg (by omega)]
theorem shortF_length_le (k : Nat) : ∀ u, u < 128 ^ (k + 1) → (shortF u).length ≤ k + 1 := by
  induction k with
  | zero => intro u hu; rw [shortF_small (by simpa using hu)]; simp
  | succ k ih =>
    intro u hu
    by_cases h : u < 128
    · rw [shortF_small h]; simp
    · rw [shortF_big (by omega)]
      have := ih (u / 128) (by rw [Nat.div_lt_iff_lt_mul (by omega)]; rw [Nat.pow_succ] at hu; omega)
      simp only [List.length_cons]; omega
theorem shortF_length {u : Nat} (h : u < 18446744073709551616) : (shortF u).length ≤ 10 := shortF_length_le 9 u (by omega)
/-- The fold of an int. -/
def foldI (n : Int) : Nat := if 0 ≤ n then (2 * n).toNat else (2 * (-(n + 1)) + 1).toNat
theorem foldI_lt {n : Int} (h0 : -9223372036854775808 ≤ n) (h1 : n ≤ 9223372036854775807) : foldI n < 18446744073709551616 := by
  unfold foldI; split <;> omega
theorem foldI_nonneg {n : Int} (h : 0 ≤ n) : ((foldI n : Nat) : Int) = 2 * n := by unfold foldI; rw [if_pos h]; omega
theorem foldI_neg {n : Int} (h : n < 0) : ((foldI n : Nat) : Int) = 2 * (-(n + 1)) + 1 := by unfold foldI; rw [if_neg (by omega)]; omega
/-- The short form of an int. -/
def intF (n : Int) : List UInt8 := shortF (foldI n)
theorem intF_length {n : Int} (h0 : -9223372036854775808 ≤ n) (h1 : n ≤ 9223372036854775807) : (intF n).length ≤ 10 := shortF_length (foldI_lt h0 h1)

theorem wrap_u64 (n : Int) : IntKind.u64.wrap n = n % 18446744073709551616 := by simp [IntKind.wrap, IntKind.bits, IntKind.signed]
theorem u64_ones0 (b : Nat) (hb : b < 2 ^ 64) : (2 ^ 64 - 1) ^^^ b = 2 ^ 64 - 1 - b := by
  apply Nat.eq_of_testBit_eq
  intro i
  rw [Nat.testBit_xor, Nat.testBit_two_pow_sub_one, show 2 ^ 64 - 1 - b = 2 ^ 64 - (b + 1) by omega, Nat.testBit_two_pow_sub_succ hb]
  by_cases hi : i < 64
  · simp [hi]
  · have : b.testBit i = false := Nat.testBit_lt_two_pow (Nat.lt_of_lt_of_le hb (Nat.pow_le_pow_right (by decide) (by omega)))
    simp [hi, this]
theorem u64_ones (b : Nat) (hb : b < 18446744073709551616) : (18446744073709551615 : Nat) ^^^ b = 18446744073709551615 - b := u64_ones0 b hb
theorem u64_ones' (b : Nat) (hb : b < 18446744073709551616) : b ^^^ (18446744073709551615 : Nat) = 18446744073709551615 - b := by rw [Nat.xor_comm]; exact u64_ones b hb
/-- uint64(n << 1) ^ uint64(n >> 63) is the fold. -/
theorem fold_bits {n : Int} (h0 : -9223372036854775808 ≤ n) (h1 : n ≤ 9223372036854775807) :
    bits .xor .u64 (IntKind.u64.wrap (wrap64 (n * 2))) (IntKind.u64.wrap (n / 9223372036854775808)) = (foldI n : Nat) := by
  rw [wrap_u64, wrap_u64]
  unfold wrap64
  by_cases hn : 0 ≤ n
  · rw [show n / 9223372036854775808 = 0 from by omega]
    have e : ((n * 2 + 9223372036854775808) % 18446744073709551616 - 9223372036854775808) % 18446744073709551616 = ((foldI n : Nat) : Int) := by rw [foldI_nonneg hn]; omega
    rw [e, show ((0 : Int) % 18446744073709551616) = ((0 : Nat) : Int) from by omega, u64_xor_nat _ 0 (foldI_lt h0 h1) (by omega), Nat.xor_zero]
  · rw [show n / 9223372036854775808 = -1 from by omega]
    have e : ((n * 2 + 9223372036854775808) % 18446744073709551616 - 9223372036854775808) % 18446744073709551616 = ((18446744073709551615 - foldI n : Nat) : Int) := by
      have := foldI_lt h0 h1
      have := foldI_neg (n := n) (by omega)
      omega
    rw [e, show ((-1 : Int) % 18446744073709551616) = ((18446744073709551615 : Nat) : Int) from by omega, u64_xor_nat _ _ (by omega) (by omega), u64_ones' _ (by omega)]
    have := foldI_lt h0 h1
    omega
theorem or128 (u : Nat) : bits .or .u8 ((u : Int) % 256) 128 = ((u % 128 + 128 : Nat) : Int) := by
  rw [show ((u : Int) % 256) = ((u % 256 : Nat) : Int) from by omega, show (128 : Int) = ((128 : Nat) : Int) from rfl, u8_or_nat _ 128 (by omega) (by omega)]
  have h : u % 256 = u % 128 + 128 * (u / 128 % 2) := by omega
  congr 1
  rcases (show u / 128 % 2 = 0 ∨ u / 128 % 2 = 1 from by omega) with e | e
  · rw [h, e, Nat.mul_zero, Nat.add_zero, Nat.or_comm, nat_join 7 128 (u % 128) (by decide) (by omega)]; omega
  · rw [h, e, Nat.mul_one, show u % 128 + 128 = 128 + u % 128 from by omega, ← nat_join 7 128 (u % 128) (by decide) (by omega)]
    rw [Nat.or_comm, ← Nat.or_assoc, Nat.or_self]

/-- The lowest k bytes of v, the highest first. -/
def beN : Nat → Nat → List UInt8
  | 0, _ => []
  | k + 1, v => UInt8.ofNat (v / 256 ^ k % 256) :: beN k v
theorem beN_length (k v : Nat) : (beN k v).length = k := by
  induction k with
  | zero => rfl
  | succ k ih => simp [beN, ih]
theorem u8_int (n : Nat) (h : n < 256) : ((UInt8.ofNat n).toNat : Int) = (n : Int) := by
  rw [UInt8.toNat_ofNat_of_lt' (by omega)]
end Go.Proofs.YtmnpchncmbnddaaGreat
/- Words of this claim's own: a slice that reads as a list, append onto an owned row from any source, bytes as cells. -/
namespace Go.Proofs.YtmnpchncmbnddaaGreat
open Go.RowKit

/-- A goal at which the walk is to stand still. -/
structure Stop (p : Prop) : Prop where
  go : p
theorem Stop.of {p : Prop} (h : Stop p) : p := h.go

theorem heap_old (w : World) (o : Obj) (k : Nat) (h : k < w.heap.size) : (w.alloc o).heap[k]? = w.heap[k]? := Below.heap_alloc w o k h
theorem block_of_add (a : Addr) (n : Nat) : (a.add n).block = a.block := by unfold Addr.add; split <;> rfl
theorem add_lit0 (b o j : Nat) : (⟨b, o, none⟩ : Addr).add j = ⟨b, o + j, none⟩ := by
  unfold Addr.add; split <;> simp_all

/-- The slice value with address A and n elements (size cells each) reads as the cells xs, in a block below B. -/
def Reads (w : World) (B size : Nat) (A : Option Addr) (n : Nat) (xs : List Value) : Prop :=
  xs.length = n * size ∧ (0 < n → ∃ b off, A = some ⟨b, off, none⟩ ∧ b < B ∧ ∀ j u, xs[j]? = some u → w.cell? ⟨b, off + j, none⟩ = some u)

section
variable {w w' : World} {B B' size n : Nat} {A : Option Addr} {xs : List Value}
theorem Reads.none_ : Reads w B size A 0 [] := ⟨by simp, fun h => absurd h (by omega)⟩
theorem Reads.keep (h : Reads w B size A n xs) (hk : ∀ p : Addr, p.block < B → w'.cell? p = w.cell? p) : Reads w' B size A n xs :=
  ⟨h.1, fun hn => by
    obtain ⟨b, off, e, hb, hc⟩ := h.2 hn
    exact ⟨b, off, e, hb, fun j u hu => (hk _ hb).trans (hc j u hu)⟩⟩
theorem Reads.more (h : Reads w B size A n xs) (hB : B ≤ B') : Reads w B' size A n xs :=
  ⟨h.1, fun hn => by
    obtain ⟨b, off, e, hb, hc⟩ := h.2 hn
    exact ⟨b, off, e, by omega, hc⟩⟩
theorem Reads.below (h : Reads w B size A n xs) (hb : Below B w w') : Reads w' B size A n xs := h.keep fun _ hp => hb.cell hp
theorem Reads.drew (h : Reads w B size A n xs) : Reads w.drew B size A n xs := h
theorem Reads.drewN (h : Reads w B size A n xs) (k : Nat) : Reads (w.drewN k) B size A n xs := h
theorem Reads.alloc (h : Reads w B size A n xs) (hB : B ≤ w.heap.size) (o : Obj) : Reads (w.alloc o) B size A n xs := h.keep fun p hp => World.cell?_alloc_lt w o p (by omega)
theorem Reads.setCell (h : Reads w B size A n xs) {p : Addr} (hB : B ≤ p.block) (u : Value) : Reads (w.setCell p u) B size A n xs :=
  h.keep fun q hq => World.cell?_setCell_other w p q u (fun e => by subst e; omega)
theorem Reads.grown (h : Reads w B size A n xs) {row : Option Nat} (hg : w.grownBy w' row) (hB : B ≤ w.heap.size) (hr : ∀ g, row = some g → B ≤ g) : Reads w' B size A n xs :=
  h.keep fun p hp => World.cell?_of_block (hg.block p.block (by omega) (fun e => by have := hr _ e.symm; omega))
theorem Reads.cells (h : Reads w B size A n xs) {a : Addr} (hA : A = some a) : ∀ j u, xs[j]? = some u → w.cell? (a.add j) = some u := by
  intro j u hu
  have hj : j < xs.length := (List.getElem?_eq_some_iff.1 hu).1
  have hn : 0 < n := by
    rcases Nat.eq_zero_or_pos n with h0 | h0
    · have := h.1; subst h0; simp at this; subst this; simp at hj
    · exact h0
  obtain ⟨b, off, e, _, hc⟩ := h.2 hn
  rw [hA] at e
  injection e with e
  subst e
  rw [add_lit0]
  exact hc j u hu
theorem Reads.src {P : Program} {t e : TypeId} (h : Reads w B size A n xs) (ht : P.underlying t = some (.slice e)) (c : Nat) (h1 : ∀ u ∈ xs, u.oneCell' = true) : Src P size t (.slice A n c) n xs w := by
  cases A with
  | some a => exact Src.ofSlice w ht a n c xs h.1 (h.cells rfl) h1
  | none =>
    have hn : n = 0 := by
      rcases Nat.eq_zero_or_pos n with h0 | h0
      · exact h0
      · obtain ⟨b, off, e, _⟩ := h.2 h0
        cases e
    subst hn
    have : xs = [] := List.eq_nil_of_length_eq_zero (by simpa using h.1)
    subst this
    exact Src.ofNil w ht c
theorem Reads.of_own {base : Nat} {e : TypeId} {c : Nat} (h : w.ownsRow base e size (.slice A n c) n xs) : Reads w w.heap.size size A n xs := by
  refine ⟨h.1, fun hn => ?_⟩
  obtain ⟨g, cap, hv, _, hlt⟩ := h.form hn
  have hA : A = some ⟨g, 0, none⟩ := by injection hv
  subst hA
  refine ⟨g, 0, rfl, hlt, fun j u hu => ?_⟩
  have := h.cells (g := g) rfl j u hu
  rwa [add_lit0] at this
end

/-- An owned row's value is a slice of that length, which fits its capacity. -/
theorem own_slice {w : World} {base : Nat} {e : TypeId} {size n : Nat} {v : Value} {xs : List Value} (h : w.ownsRow base e size v n xs) :
    ∃ A c, v = .slice A n c ∧ n ≤ c ∧ Reads w w.heap.size size A n xs := by
  have h0 := h
  rcases h.2 with ⟨rfl, rfl⟩ | ⟨g, cap, cur, rfl, _, _, hc, _⟩
  · exact ⟨none, 0, rfl, Nat.le_refl _, Reads.of_own h0⟩
  · exact ⟨_, _, rfl, hc, Reads.of_own h0⟩

section
variable {P : Program} (w : World)

/-- append onto an owned row, from any source; and where the new row lies. -/
theorem run_append_any (base : Nat) (t tx ty e : TypeId) (i : TypeInfo) (z : Value) (size bytes : Nat) (ht : P.underlying t = some (.slice e)) (hi : P.info? e = some i) (hz : i.zero = some z)
    (hsize : i.size = size) (hby : i.bytes = bytes) (hzs : z.cells.size = size) (hsz : 0 < size)
    (v : Value) (n : Nat) (xs : List Value) (hown : w.ownsRow base e size v n xs)
    (x : Value) (m : Nat) (news : List Value) (hs : Src P size tx x m news w)
    (hbytes : (n + m) * bytes ≤ 140737488355328) (hb0 : 0 < bytes) (hbase : base ≤ w.heap.size) :
    ∃ v' w', (Builtin.append_ #[t, tx] ty #[v, x]).run P w = .ok v' w' ∧ w'.ownsRow base e size v' (n + m) (xs ++ news) ∧ w.grownBy w' v.ownBlock ∧
      (v'.ownBlock = v.ownBlock ∨ v'.ownBlock = some w.heap.size) := by
  subst hsize
  subst hby
  have h63 : n + m ≤ 140737488355328 := by
    have : (n + m) * 1 ≤ (n + m) * i.bytes := Nat.mul_le_mul_left _ hb0
    omega
  have hlen : (xs ++ news).length = (n + m) * i.size := by rw [List.length_append, hown.1, hs.newsLen, Nat.add_mul]
  have grown : ∀ (old : Nat), old < n + m → ∀ (row : Option Nat),
      (w.drew.alloc (.cells ((xs ++ news).toArray ++ Builtin.zeroCells z.cells (grownCap w (n + m) old e - (n + m))) e)).ownsRow base e i.size
        (.slice (some ⟨w.heap.size, 0, none⟩) (n + m) (grownCap w (n + m) old e)) (n + m) (xs ++ news) ∧
      w.grownBy (w.drew.alloc (.cells ((xs ++ news).toArray ++ Builtin.zeroCells z.cells (grownCap w (n + m) old e - (n + m))) e)) row := by
    intro old ho row
    have hge := grownCap_ge w (n + m) old e
    have hcm : grownCap w (n + m) old e ≤ maxLen := grownCap_le_maxLen w (n + m) old e (by unfold maxLen; omega)
    refine ⟨⟨hlen, .inr ⟨w.heap.size, _, _, rfl, hbase, heap_alloc_new w.drew _, hge, hcm, ?_, ?_⟩⟩, ⟨rfl, rfl, rfl, by simp, fun k hk _ => heap_old w.drew _ k hk⟩⟩
    · rw [Array.size_append, List.size_toArray, size_zeroCells, hzs, hlen, ← Nat.add_mul]
      congr 1
      omega
    · rw [Array.toList_append, ← hlen]
      exact List.take_left
  rcases hown.2 with ⟨rfl, rfl⟩ | ⟨g, cap, cur, rfl, hbg, hg, hnc, hcm, hcs, htake⟩
  · have hx : xs = [] := List.eq_nil_of_length_eq_zero (by simpa using hown.1)
    subst hx
    by_cases hm : m = 0
    · subst hm
      have hn : news = [] := List.eq_nil_of_length_eq_zero (by simpa using hs.newsLen)
      subst hn
      refine ⟨.slice none 0 0, w, ?_, World.ownsRow_nil w base e i.size, ⟨rfl, rfl, rfl, Nat.le_refl _, fun _ _ _ => rfl⟩, .inl rfl⟩
      have hl := hs.len w
      have hc := hs.cells
      rcases hs.kind with ⟨e', hk⟩ | hk <;> simp [Builtin.append_, run_underlying ht, run_underlying hk, sizeOf, typeInfo, hi, hl, hc]
    · have hr := run_append_grow_src (P := P) w t tx ty e i z ht hi hz none 0 0 [] (by simp [Builtin.firstCells]) x m news hs (by omega) (by omega) (by
        have hb := hbytes
        refine growslice_fits (by omega) hb)
      have hgr := grown 0 (by omega) (Value.ownBlock (.slice none 0 0))
      exact ⟨_, _, hr, hgr.1, hgr.2, .inr rfl⟩
  · by_cases hroom : n + m ≤ cap
    · have hfit : n * i.size + news.length ≤ cur.size := by rw [hs.newsLen, hcs, ← Nat.add_mul]; exact Nat.mul_le_mul_right _ hroom
      have hst := run_storeCells_at P g (n * i.size) e news 0 cur w hg (by simpa using hfit) hs.one
      simp only [Nat.add_zero] at hst
      have hr : (Builtin.append_ #[t, tx] ty #[.slice (some ⟨g, 0, none⟩) n cap, x]).run P w =
          .ok (.slice (some ⟨g, 0, none⟩) (n + m) cap) (w.setRow g (cur.toList.take (n * i.size) ++ news ++ cur.toList.drop (n * i.size + news.length)).toArray) := by
        have hl := hs.len w
        have hc := hs.cells
        rcases hs.kind with ⟨e', hk⟩ | hk <;> simp [Builtin.append_, run_underlying ht, run_underlying hk, sizeOf, typeInfo, hi, hl, hc, hroom, Addr.add_lit, hst]
      refine ⟨_, _, hr, ⟨hlen, .inr ⟨g, cap, _, rfl, hbg, setRow_heap w g cur _ e _ hg, hroom, hcm, ?_, ?_⟩⟩, ⟨rfl, rfl, rfl, by simp, fun k _ hk => setRow_other w g k _ (fun e => hk (by simp [Value.ownBlock, e]))⟩, .inl rfl⟩
      · simp only [List.size_toArray, List.length_append, List.length_take, List.length_drop, Array.length_toList]
        omega
      · rw [htake, ← hlen]
        exact List.take_left
    · have holds : ∀ j u, xs[j]? = some u → w.cell? ((⟨g, 0, none⟩ : Addr).add j) = some u := hown.cells (g := g) rfl
      have hr := run_append_grow_src (P := P) w t tx ty e i z ht hi hz (some ⟨g, 0, none⟩) n cap xs (run_firstCells_some w.drew i.size n ⟨g, 0, none⟩ n cap xs hown.1 (by simpa using holds)) x m news hs (by omega) (by omega) (growslice_fits (by omega) hbytes)
      have hgr := grown cap (by omega) (Value.ownBlock (.slice (some ⟨g, 0, none⟩) n cap))
      exact ⟨_, _, hr, hgr.1, hgr.2, .inr rfl⟩

theorem wp_append_any {o : Oper} {a : Act} {K : Act → World → Prop} {Q : Exit → Act → World → Prop} {s xo : Operand} {t tx : TypeId}
    (ho : o.op = .call { callee := .builtin .append, args := #[s, xo], argTypes := #[t, tx] })
    (base : Nat) {e : TypeId} {z : Value} {size bytes : Nat} (ht : P.underlying t = some (.slice e)) (hinfo : (P.info? e).map (fun i => (i.zero, i.size, i.bytes)) = some (some z, size, bytes))
    (hzs : z.cells.size = size) (hsz : 0 < size) (hb0 : 0 < bytes)
    {v : Value} {n : Nat} {xs : List Value} (hs : a.eval s = v) (hown : w.ownsRow base e size v n xs)
    {x : Value} {m : Nat} {news : List Value} (hx : a.eval xo = x) (hsrc : Src P size tx x m news w)
    (hbytes : (n + m) * bytes ≤ 140737488355328) (hbase : base ≤ w.heap.size)
    (h : ∀ v' w', w'.ownsRow base e size v' (n + m) (xs ++ news) → w.grownBy w' v.ownBlock → (v'.ownBlock = v.ownBlock ∨ v'.ownBlock = some w.heap.size) → K (a.put o.dst v') w') : o.wp P a w K Q := by
  obtain ⟨i, hi, hz, h4, h5⟩ := info_parts hinfo
  obtain ⟨v', w', hr, h2, h3, h4⟩ := run_append_any (P := P) w base t tx o.type e i z size bytes ht hi hz h4 h5 hzs hsz v n xs hown x m news hsrc hbytes hb0 hbase
  unfold Oper.wp execOp
  simp only [ho, resolve, invoke, builtin, Sem.run_bind, Sem.run_pure, Result.andThen_ok, List.map_toArray, List.map_cons, List.map_nil, hs, hx, hr]
  exact h v' w' h2 h3 h4

theorem wpList_append_any {ops : Array Oper} {rest : List Oper} {o : Oper} {a : Act} {Q : Exit → Act → World → Prop} {s xo : Operand} {t tx : TypeId} (hgd : o.guard = none)
    (ho : o.op = .call { callee := .builtin .append, args := #[s, xo], argTypes := #[t, tx] })
    (base : Nat) {e : TypeId} {z : Value} {size bytes : Nat} (ht : P.underlying t = some (.slice e)) (hinfo : (P.info? e).map (fun i => (i.zero, i.size, i.bytes)) = some (some z, size, bytes))
    (hzs : z.cells.size = size) (hsz : 0 < size) (hb0 : 0 < bytes)
    {v : Value} {n : Nat} {xs : List Value} (hs : a.eval s = v) (hown : w.ownsRow base e size v n xs)
    {x : Value} {m : Nat} {news : List Value} (hx : a.eval xo = x) (hsrc : Src P size tx x m news w)
    (hbytes : (n + m) * bytes ≤ 140737488355328) (hbase : base ≤ w.heap.size)
    (h : ∀ v' w', w'.ownsRow base e size v' (n + m) (xs ++ news) → w.grownBy w' v.ownBlock → (v'.ownBlock = v.ownBlock ∨ v'.ownBlock = some w.heap.size) → wpList P ops Q rest (a.put o.dst v') w') : wpList P ops Q (o :: rest) a w :=
  wpList_plain hgd fun _ hK => wp_append_any w ho base ht hinfo hzs hsz hb0 hs hown hx hsrc hbytes hbase fun v' w' h2 h3 h4 => hK _ _ (h v' w' h2 h3 h4)
end

/-- Bytes as cells. -/
def bys (l : List UInt8) : List Value := l.map fun b => Value.int .u8 b.toNat
theorem bys_length (l : List UInt8) : (bys l).length = l.length := by simp [bys]
theorem bys_append (a b : List UInt8) : bys (a ++ b) = bys a ++ bys b := by simp [bys]
theorem bys_one (l : List UInt8) : ∀ u ∈ bys l, u.oneCell' = true := by
  intro u hu
  obtain ⟨_, _, rfl⟩ := List.mem_map.1 hu
  rfl
theorem bys_get (l : List UInt8) (k : Nat) : (bys l)[k]? = (l[k]?).map fun b => Value.int .u8 b.toNat := by simp [bys]
theorem byteCells_eq (s : ByteArray) : byteCells s = bys s.data.toList := rfl

theorem Tryz.info5 : (Tryz.prog.info? 5).map (fun i => (i.zero, i.size, i.bytes)) = some (some (.int .u8 0), 1, 1) := by kernel_rfl

/-- The slice value v reads as the bytes l, in blocks below B. -/
def BReads (w : World) (B : Nat) (A : Option Addr) (l : List UInt8) : Prop := Reads w B 1 A l.length (bys l)
/-- The bytes l, owned from block base on. -/
def BOwns (w : World) (base : Nat) (v : Value) (l : List UInt8) : Prop := w.ownsRow base 5 1 v l.length (bys l)

theorem BOwns.nil (w : World) (base : Nat) : BOwns w base (.slice none 0 0) [] := World.ownsRow_nil w base 5 1
theorem BOwns.slice {w : World} {base : Nat} {v : Value} {l : List UInt8} (h : BOwns w base v l) : ∃ A c, v = .slice A l.length c ∧ l.length ≤ c ∧ BReads w w.heap.size A l := own_slice h
theorem BReads.src {w : World} {B c : Nat} {A : Option Addr} {l : List UInt8} (h : BReads w B A l) : Src Tryz.prog 1 49 (.slice A l.length c) l.length (bys l) w :=
  Reads.src h Tryz.underlying49 c (bys_one l)
theorem BReads.at_ {w : World} {B : Nat} {A : Option Addr} {l : List UInt8} (h : BReads w B A l) {k : Nat} (hk : k < l.length) :
    ∃ b off, A = some ⟨b, off, none⟩ ∧ b < B ∧ w.cell? ⟨b, off + k, none⟩ = some (.int .u8 (l[k].toNat : Int)) := by
  obtain ⟨b, off, e, hb, hc⟩ := h.2 (by omega)
  exact ⟨b, off, e, hb, hc k _ (by rw [bys_get, List.getElem?_eq_getElem hk]; rfl)⟩
theorem BReads.all {w : World} {B : Nat} {A : Option Addr} {l : List UInt8} (h : BReads w B A l) (hl : 0 < l.length) :
    ∃ b off, A = some ⟨b, off, none⟩ ∧ b < B ∧ ∀ k, (hk : k < l.length) → w.cell? ⟨b, off + k, none⟩ = some (.int .u8 (l[k].toNat : Int)) := by
  obtain ⟨b, off, e, hb, hc⟩ := h.2 hl
  exact ⟨b, off, e, hb, fun k hk => hc k _ (by rw [bys_get, List.getElem?_eq_getElem hk]; rfl)⟩
theorem BOwns.of {w : World} {base n : Nat} {v : Value} {l : List UInt8} (h : w.ownsRow base 5 1 v n (bys l)) : BOwns w base v l := by
  have : n = l.length := by have := h.1; rw [bys_length] at this; omega
  subst this; exact h
theorem BReads.below {w w' : World} {B : Nat} {A : Option Addr} {l : List UInt8} (h : BReads w B A l) (hb : Below B w w') : BReads w' B A l := Reads.below h hb
theorem BReads.more {w : World} {B B' : Nat} {A : Option Addr} {l : List UInt8} (h : BReads w B A l) (hb : B ≤ B') : BReads w B' A l := Reads.more h hb
theorem str_src {w : World} (s : ByteArray) : Src Tryz.prog 1 9 (.string s) s.data.toList.length (bys s.data.toList) w := by
  have h := Src.ofString (P := Tryz.prog) w Tryz.underlying9 s
  rwa [show s.size = s.data.toList.length from by rw [Array.length_toList]; rfl, byteCells_eq] at h

/-- append of bytes onto an owned row of bytes. -/
theorem append_bytes {w : World} {ops : Array Oper} {rest : List Oper} {o : Oper} {a : Act} {Q : Exit → Act → World → Prop} {s xo : Operand} {tx : TypeId} {base : Nat} {v : Value} {l m : List UInt8} {x : Value}
    (hown : BOwns w base v l) (hsrc : Src Tryz.prog 1 tx x m.length (bys m) w) (hbytes : l.length + m.length ≤ 140737488355328) (hbase : base ≤ w.heap.size)
    (hgd : o.guard = none) (ho : o.op = .call { callee := .builtin .append, args := #[s, xo], argTypes := #[49, tx] })
    (hs : a.eval s = v) (hx : a.eval xo = x)
    (h : ∀ v' w', BOwns w' base v' (l ++ m) → w.grownBy w' v.ownBlock → (v'.ownBlock = v.ownBlock ∨ v'.ownBlock = some w.heap.size) → wpList Tryz.prog ops Q rest (a.put o.dst v') w') : wpList Tryz.prog ops Q (o :: rest) a w :=
  wpList_append_any w hgd ho base Tryz.underlying49 Tryz.info5 rfl (by decide) (by decide) hs hown hx hsrc (by omega) hbase fun v' w' h1 h2 h3 => h v' w' (BOwns.of (by rw [bys_append]; exact h1)) h2 h3
theorem below_of_nil {w w' : World} (hg : w.grownBy w' (Value.ownBlock (.slice none 0 0))) : Below w.heap.size w w' := (Below.refl _ _).grown hg (Nat.le_refl _) (by simp [Value.ownBlock])
/-- The slice v lies in row 'row', or in a block that w did not have. -/
def OwnFrom (w : World) (row : Option Nat) (v : Value) : Prop := v.ownBlock = row ∨ ∀ k, v.ownBlock = some k → w.heap.size ≤ k
theorem OwnFrom.step {w wr : World} {row : Option Nat} {v v' : Value} (h : OwnFrom w row v) (hs : w.heap.size ≤ wr.heap.size) (h2 : v'.ownBlock = v.ownBlock ∨ v'.ownBlock = some wr.heap.size) : OwnFrom w row v' := by
  rcases h2 with h2 | h2
  · rcases h with h | h
    · exact .inl (h2.trans h)
    · exact .inr (fun k hk => h k (h2 ▸ hk))
  · exact .inr (fun k hk => by rw [h2] at hk; injection hk with hk; omega)
theorem grown_step {w wr w' : World} {row : Option Nat} {v : Value} (h : w.grownBy wr row) (hv : OwnFrom w row v) (h2 : wr.grownBy w' v.ownBlock) : w.grownBy w' row :=
  ⟨h2.os.trans h.os, h2.tape.trans h.tape, h2.output.trans h.output, Nat.le_trans h.size h2.size, fun k hk hne => (h2.block k (Nat.lt_of_lt_of_le hk h.size) (fun e => by
    rcases hv with hv | hv
    · exact hne (e.trans hv)
    · have := hv k e.symm; omega)).trans (h.block k hk hne)⟩
theorem grown_alloc {w wr : World} {row : Option Nat} (h : w.grownBy wr row) (o : Obj) : w.grownBy (wr.alloc o) row :=
  ⟨h.os, h.tape, h.output, Nat.le_trans h.size (by simp), fun k hk hne => (heap_old wr o k (Nat.lt_of_lt_of_le hk h.size)).trans (h.block k hk hne)⟩
theorem BOwns.alloc {w : World} {base : Nat} {v : Value} {l : List UInt8} (h : BOwns w base v l) (o : Obj) : BOwns (w.alloc o) base v l := World.ownsRow.alloc h o
theorem OwnFrom.alloc {w : World} {row : Option Nat} {v : Value} (o : Obj) (h : OwnFrom (w.alloc o) row v) : OwnFrom w row v := by
  rcases h with h | h
  · exact .inl h
  · exact .inr (fun k hk => by have := h k hk; simp at this; omega)
/-- The one byte of 'append(b, x)', in its new block. -/
theorem byte_src (w : World) (b : UInt8) {n : Int} (e : n = (b.toNat : Int)) : Src Tryz.prog 1 49 (.slice (some ⟨w.heap.size, 0, none⟩) 1 1) [b].length (bys [b]) (w.alloc (.cells #[.int .u8 n] 5)) := by
  subst e
  refine Src.ofSlice _ Tryz.underlying49 _ 1 1 [.int .u8 b.toNat] rfl (fun j u hu => ?_) (fun u hu => ?_)
  · rcases j with _ | j
    · simp only [List.getElem?_cons_zero, Option.some.injEq] at hu
      subst hu
      rw [add_lit0, cell_of_row _ w.heap.size 0 _ 5 (0, 0) (heap_alloc_new w _)]; rfl
    · simp at hu
  · simp only [List.mem_cons, List.not_mem_nil, or_false] at hu; subst hu; rfl
theorem grown_of_below {w w' : World} (hb : Below w.heap.size w w') (row : Option Nat) : w.grownBy w' row := ⟨hb.os, hb.tape, hb.output, hb.size, fun k hk _ => hb.block k hk⟩
theorem owns_below {w w' : World} {base : Nat} {e : TypeId} {size n : Nat} {v : Value} {xs : List Value} (h : w.ownsRow base e size v n xs) (hb : Below w.heap.size w w') : w'.ownsRow base e size v n xs :=
  World.ownsRow.kept h (grown_of_below hb none) (by cases v.ownBlock <;> simp)
theorem BOwns.below {w w' : World} {base : Nat} {v : Value} {l : List UInt8} (h : BOwns w base v l) (hb : Below w.heap.size w w') : BOwns w' base v l := owns_below h hb
theorem below_alloc1 {w w1 : World} {o : Obj} (hb : Below (w.alloc o).heap.size (w.alloc o) w1) : Below w.heap.size w w1 :=
  ((Below.refl _ _).alloc (Nat.le_refl _) o).trans (hb.mono (by simp))
theorem str_length (s : ByteArray) : s.data.toList.length = s.size := by rw [Array.length_toList]; rfl
end Go.Proofs.YtmnpchncmbnddaaGreat
/- How data of a Lean type lies in cells: numbers, bools, strings, bytes, slices, structs; and that whatever a row's reading of an argument meets is such data. -/
namespace Go.Proofs.YtmnpchncmbnddaaGreat
open Go.RowKit Go.ChangeShapes Go.WideShapes

/-- How data of a Lean type lies in cells: 'R w B a cs': the cells cs bear a, and all that they lead to lies below block B. -/
structure Kd (α : Type) where
  size : Nat
  R : World → Nat → α → List Value → Prop
  bulk : α → Nat
  fits : α → Prop
  len : ∀ {w : World} {B : Nat} {a : α} {cs : List Value}, R w B a cs → cs.length = size
  keep : ∀ {w w' : World} {B : Nat} {a : α} {cs : List Value}, R w B a cs → (∀ p : Addr, p.block < B → w'.cell? p = w.cell? p) → R w' B a cs
  more : ∀ {w : World} {B B' : Nat} {a : α} {cs : List Value}, R w B a cs → B ≤ B' → R w B' a cs

def kInt (k : IntKind) : Kd Int where
  size := 1
  R := fun _ _ n cs => cs = [.int k n] ∧ (Lit.int k n).wf = true
  bulk := fun _ => 1
  fits := fun _ => True
  len := fun h => by rw [h.1]; rfl
  keep := fun h _ => h
  more := fun h _ => h
def kBool : Kd Bool where
  size := 1
  R := fun _ _ b cs => cs = [.bool b]
  bulk := fun _ => 1
  fits := fun _ => True
  len := fun h => by rw [h]; rfl
  keep := fun h _ => h
  more := fun h _ => h
def kStr : Kd ByteArray where
  size := 1
  R := fun _ _ s cs => cs = [.string s]
  bulk := fun s => s.size + 1
  fits := fun s => s.size ≤ reachBytes
  len := fun h => by rw [h]; rfl
  keep := fun h _ => h
  more := fun h _ => h
def kBytes : Kd (List UInt8) where
  size := 1
  R := fun w B l cs => ∃ A c, cs = [.slice A l.length c] ∧ l.length ≤ c ∧ BReads w B A l
  bulk := fun l => l.length + 1
  fits := fun l => l.length ≤ reachBytes
  len := fun ⟨_, _, h, _⟩ => by rw [h]; rfl
  keep := fun ⟨A, c, h, hc, hr⟩ hk => ⟨A, c, h, hc, Reads.keep hr hk⟩
  more := fun ⟨A, c, h, hc, hr⟩ hB => ⟨A, c, h, hc, hr.more hB⟩
/-- The list's elements lie one behind the other from offset off on in block b. -/
def Kd.Row {α : Type} (K : Kd α) (w : World) (B b off : Nat) (l : List α) : Prop :=
  ∀ j x, l[j]? = some x → ∃ cs, K.R w B x cs ∧ ∀ t u, cs[t]? = some u → w.cell? ⟨b, off + j * K.size + t, none⟩ = some u
theorem Kd.Row.keep {α : Type} {K : Kd α} {w w' : World} {B b off : Nat} {l : List α} (h : K.Row w B b off l) (hb : b < B) (hk : ∀ p : Addr, p.block < B → w'.cell? p = w.cell? p) : K.Row w' B b off l :=
  fun j x hx => by
    obtain ⟨cs, hr, hc⟩ := h j x hx
    exact ⟨cs, K.keep hr hk, fun t u hu => (hk _ hb).trans (hc t u hu)⟩
def Kd.Sl {α : Type} (K : Kd α) (w : World) (B : Nat) (A : Option Addr) (l : List α) : Prop :=
  0 < l.length → ∃ b off, A = some ⟨b, off, none⟩ ∧ b < B ∧ K.Row w B b off l
theorem Kd.Sl.keep {α : Type} {K : Kd α} {w w' : World} {B : Nat} {A : Option Addr} {l : List α} (h : K.Sl w B A l) (hk : ∀ p : Addr, p.block < B → w'.cell? p = w.cell? p) : K.Sl w' B A l :=
  fun hl => by
    obtain ⟨b, off, hA, hb, hr⟩ := h hl
    exact ⟨b, off, hA, hb, hr.keep hb hk⟩
theorem Kd.Sl.below {α : Type} {K : Kd α} {w w' : World} {B : Nat} {A : Option Addr} {l : List α} (h : K.Sl w B A l) (hb : Below B w w') : K.Sl w' B A l := h.keep fun _ hp => hb.cell hp
theorem Kd.Sl.more {α : Type} {K : Kd α} {w : World} {B B' : Nat} {A : Option Addr} {l : List α} (h : K.Sl w B A l) (hB : B ≤ B') : K.Sl w B' A l :=
  fun hl => by
    obtain ⟨b, off, hA, hb, hr⟩ := h hl
    refine ⟨b, off, hA, by omega, fun j x hx => ?_⟩
    obtain ⟨cs, hr, hc⟩ := hr j x hx
    exact ⟨cs, K.more hr hB, hc⟩
def kPair {α β : Type} (K : Kd α) (L : Kd β) : Kd (α × β) where
  size := K.size + L.size
  R := fun w B x cs => ∃ c1 c2, cs = c1 ++ c2 ∧ K.R w B x.1 c1 ∧ L.R w B x.2 c2
  bulk := fun x => K.bulk x.1 + L.bulk x.2
  fits := fun x => K.fits x.1 ∧ L.fits x.2
  len := fun ⟨c1, c2, h, h1, h2⟩ => by rw [h, List.length_append, K.len h1, L.len h2]
  keep := fun ⟨c1, c2, h, h1, h2⟩ hk => ⟨c1, c2, h, K.keep h1 hk, L.keep h2 hk⟩
  more := fun ⟨c1, c2, h, h1, h2⟩ hB => ⟨c1, c2, h, K.more h1 hB, L.more h2 hB⟩
/-- The same under another name. -/
def kAs {α β : Type} (K : Kd α) (f : β → α) : Kd β where
  size := K.size
  R := fun w B x cs => K.R w B (f x) cs
  bulk := fun x => K.bulk (f x)
  fits := fun x => K.fits (f x)
  len := fun h => K.len h
  keep := fun h hk => K.keep h hk
  more := fun h hB => K.more h hB

/-- Whatever the row's reading meets at type T is data of this kind. -/
structure Opens {α : Type} (K : Kd α) (T : TypeId) : Prop where
  size : Tryz.prog.cellsOf T = K.size
  go : ∀ {H : Type} {enc : TypeId × Value → H} {w : World} {base fuel : Nat} {spare : Nat → Bool} {held : Bool} {cs : List Value} {x : DataW H × List MemPlace},
    DataW.trod enc Tryz.prog w base spare held fuel T cs = some x →
    ∃ a, K.R w w.heap.size a cs ∧ K.bulk a ≤ Rows.uptoBulk x.1 ∧ ((∀ n ∈ x.1.weights Tryz.prog T, n ≤ reachBytes) → K.fits a)

theorem opens_int {k : IntKind} {T : TypeId} (hs : Tryz.prog.cellsOf T = 1) (hu : Tryz.prog.underlying T = some (.int k)) : Opens (kInt k) T :=
  ⟨hs, fun h => by
    obtain ⟨n, rfl, rfl, hw⟩ := DataW.trod_int hu h
    exact ⟨n, ⟨rfl, hw⟩, by simp [kInt, Rows.uptoBulk], fun _ => trivial⟩⟩
theorem bulk_one {H : Type} (d : DataW H) : 1 ≤ Rows.uptoBulk d := by
  cases d with
  | lit l => cases l <;> simp [Rows.uptoBulk]
  | nil => simp [Rows.uptoBulk]
  | ptr d => simp [Rows.uptoBulk]
  | slice elems spare => simp [Rows.uptoBulk]
  | agg parts => simp [Rows.uptoBulk]
  | iface t d => simp [Rows.uptoBulk]
  | map entries => simp [Rows.uptoBulk]
  | held h => simp [Rows.uptoBulk]
theorem bulk_length {H : Type} (l : List (DataW H)) : l.length ≤ Rows.uptoBulkAll l := by
  induction l with
  | nil => simp [Rows.uptoBulkAll]
  | cons x r ih => have := bulk_one x; simp only [Rows.uptoBulkAll, List.length_cons]; omega
theorem addr_none {w : World} {a : Addr} {v : Value} (h : w.cell? a = some v) : a.spot = none := World.cell?_spot h

theorem opens_bytes {T E : TypeId} (hs : Tryz.prog.cellsOf T = 1) (hu : Tryz.prog.underlying T = some (.slice E)) (he : Tryz.prog.underlying E = some (.int .u8)) (hc : Tryz.prog.cellsOf E = 1) (hb : Tryz.prog.bytesOf E = 1) : Opens kBytes T :=
  ⟨hs, fun {H enc w base fuel spare held cs x} h => by
    rcases open_ints hu he hc h with ⟨rfl, rfl⟩ | ⟨a, len, cap, zs, rfl, _, hl, _, hz, rfl, hcell, hwf⟩
    · exact ⟨[], ⟨none, 0, rfl, Nat.le_refl _, Reads.none_⟩, by simp [kBytes, Rows.uptoBulk], fun _ => by simp [kBytes]⟩
    · have hle : len ≤ zs.length := by rw [hz]; split <;> omega
      have hlen : ((zs.take len).map fun n => UInt8.ofNat n.toNat).length = len := by rw [List.length_map, List.length_take]; omega
      have hget : ∀ j, j < len → ((zs.take len).map fun n => UInt8.ofNat n.toNat)[j]? = some (UInt8.ofNat (zs.getD j 0).toNat) := by
        intro j hj
        have hj' : j < zs.length := by omega
        rw [List.getElem?_map, List.getElem?_take, if_pos hj, List.getD, List.getElem?_eq_getElem hj']; rfl
      refine ⟨(zs.take len).map fun n => UInt8.ofNat n.toNat, ⟨some a, cap, by rw [hlen], by rw [hlen]; exact hl, ?_⟩, ?_, fun hw => ?_⟩
      · refine ⟨by rw [bys_length, Nat.mul_one], fun hn => ?_⟩
        rw [hlen] at hn
        have h0 := hcell 0 (by omega)
        obtain ⟨b, off, spot⟩ := a
        have hsp : spot = none := by simpa [Addr.add] using addr_none h0
        subst hsp
        refine ⟨b, off, rfl, ?_, fun j u hu => ?_⟩
        · have := World.block_lt_of_cell? w _ h0
          rw [block_of_add] at this; exact this
        · have hj : j < len := by
            have := (List.getElem?_eq_some_iff.1 hu).1
            rw [bys_length, hlen] at this; exact this
          rw [bys_get, hget j hj] at hu
          have e := hcell j (by omega)
          rw [add_lit0] at e
          rw [e, ← hu]
          have hj' : j < zs.length := by omega
          have hw := hwf (zs.getD j 0) (by rw [List.getD, List.getElem?_eq_getElem hj']; exact List.getElem_mem hj')
          have hr : 0 ≤ zs.getD j 0 ∧ zs.getD j 0 ≤ 255 := by simpa [Lit.wf, IntKind.min, IntKind.max, IntKind.signed, IntKind.bits] using hw
          simp only [Option.map_some]
          rw [u8_int _ (by omega), Int.toNat_of_nonneg hr.1]
      · have := bulk_length (lits (H := H) .u8 (zs.take len))
        simp only [kBytes, Rows.uptoBulk, hlen]
        have e : (lits (H := H) .u8 (zs.take len)).length = len := by simp [lits]; omega
        omega
      · have := hw ((lits (H := H) .u8 (zs.take len)).length + (lits (H := H) .u8 (zs.drop len)).length) (by simp [DataW.weights, hu, hb])
        simp only [kBytes, hlen]
        have e : (lits (H := H) .u8 (zs.take len)).length = len := by simp [lits]; omega
        omega⟩

/-- The fields fs, from cell off on, one behind the other. -/
def OpensF {α : Type} (K : Kd α) (fs : List Field) (off : Nat) : Prop :=
  ∀ {H : Type} {enc : TypeId × Value → H} {w : World} {base fuel : Nat} {spare : Nat → Bool} {held : Bool} {cs : List Value} {xs : List (DataW H × List MemPlace)},
    (∀ (i : Nat) (f : Field), fs[i]? = some f → DataW.trod enc Tryz.prog w base spare held fuel f.type ((cs.drop f.offset).take (Tryz.prog.cellsOf f.type)) = xs[i]?) → xs.length = fs.length → cs.length = off + K.size →
    ∃ a, K.R w w.heap.size a (cs.drop off) ∧ K.bulk a ≤ Rows.uptoBulkAll (xs.map (·.1)) ∧ ((∀ n ∈ DataW.weightsEach Tryz.prog (fs.map (·.type)) (xs.map (·.1)), n ≤ reachBytes) → K.fits a)
theorem opensF_one {α : Type} {K : Kd α} {f : Field} {off : Nat} (h : Opens K f.type) (ho : f.offset = off) : OpensF K [f] off := by
  intro H enc w base fuel spare held cs xs hx hl hc
  match xs, hl with
  | [x], _ =>
    have h0 := hx 0 f rfl
    rw [h.size, ho, List.take_of_length_le (by rw [List.length_drop]; omega)] at h0
    obtain ⟨a, r1, r2, r3⟩ := h.go h0
    exact ⟨a, r1, by simpa [Rows.uptoBulkAll] using r2, fun hw => r3 fun n hn => hw n (by simp [DataW.weightsEach]; exact hn)⟩
theorem opensF_cons {α β : Type} {K : Kd α} {L : Kd β} {f : Field} {fs : List Field} {off : Nat} (h : Opens K f.type) (ho : f.offset = off) (hr : OpensF L fs (off + K.size)) : OpensF (kPair K L) (f :: fs) off := by
  intro H enc w base fuel spare held cs xs hx hl hc
  match xs, hl with
  | x :: xs, hl =>
    have h0 := hx 0 f rfl
    rw [h.size, ho] at h0
    obtain ⟨a, r1, r2, r3⟩ := h.go h0
    obtain ⟨b, s1, s2, s3⟩ := hr (cs := cs) (xs := xs) (fun i g hg => by simpa using hx (i + 1) g (by simpa using hg)) (by simpa using hl) (by rw [hc]; simp [kPair]; omega)
    refine ⟨(a, b), ⟨_, _, ?_, r1, s1⟩, ?_, fun hw => ⟨r3 fun n hn => hw n ?_, s3 fun n hn => hw n ?_⟩⟩
    · rw [← List.drop_drop, List.take_append_drop]
    · simp only [kPair, List.map_cons, Rows.uptoBulkAll]; omega
    · simp only [List.map_cons, DataW.weightsEach, List.mem_append]; exact Or.inl hn
    · simp only [List.map_cons, DataW.weightsEach, List.mem_append]; exact Or.inr hn
theorem opens_struct {α : Type} {K : Kd α} {T : TypeId} {fs : Array Field} (hs : Tryz.prog.cellsOf T = K.size) (hu : Tryz.prog.underlying T = some (.struct fs)) (hf : OpensF K fs.toList 0) : Opens K T :=
  ⟨hs, fun {H enc w base fuel spare held cs x} h => by
    obtain ⟨xs, n, rfl, rfl, hl, hlen, hx⟩ := DataW.trod_struct hu h
    obtain ⟨a, r1, r2, r3⟩ := hf (cs := cs) (xs := xs) (fun i f hi => hx i f (by simpa using hi)) (by simpa using hlen) (by rw [hl, hs]; omega)
    rw [List.drop_zero] at r1
    refine ⟨a, r1, ?_, fun hw => r3 fun n hn => hw n ?_⟩
    · simp only [Rows.uptoBulk]; omega
    · simp only [DataW.weights, hu]; exact hn⟩
theorem opens_as {α β : Type} {K : Kd α} {T : TypeId} (h : Opens K T) (f : β → α) (g : α → β) (hfg : ∀ a, f (g a) = a) : Opens (kAs K f) T :=
  ⟨h.size, fun ht => by
    obtain ⟨a, r1, r2, r3⟩ := h.go ht
    refine ⟨g a, ?_, ?_, ?_⟩ <;> simp only [kAs, hfg] <;> assumption⟩

/-- An argument, opened. -/
theorem Opens.arg {α : Type} {K : Kd α} {T : TypeId} (h : Opens K T) {H : Type} {enc : TypeId × Value → H} {w : World} {base : Nat} {spare : Nat → Bool} {held : Bool} {v : Value} {d : DataW H} {ps : List MemPlace}
    (ht : DataW.Trod enc Tryz.prog w base spare held T v d ps) : ∃ a, K.R w w.heap.size a v.cells.toList ∧ K.bulk a ≤ Rows.uptoBulk d ∧ ((∀ n ∈ d.weights Tryz.prog T, n ≤ reachBytes) → K.fits a) := by
  obtain ⟨fuel, hf⟩ := ht
  exact h.go hf
end Go.Proofs.YtmnpchncmbnddaaGreat
/- The Puts of package codec: own, short, PutInt, PutText, PutBytes, each by its contract. -/
namespace Go.Proofs.YtmnpchncmbnddaaGreat
open Go.RowKit

/-- The call answers the bytes l in new memory, and leaves what was there. -/
def GivesB (w : World) (l : List UInt8) (e : Ending) (w' : World) : Prop := ∃ v', e = .returned v' ∧ BOwns w' w.heap.size v' l ∧ Below w.heap.size w w'

theorem own_any {w : World} {B c : Nat} {A : Option Addr} {l : List UInt8} (hr : BReads w B A l) (hl : l.length ≤ 140737488355328) :
    Calls Tryz.prog 193 #[.slice A l.length c] w (GivesB w l) := by
  go_enter Tryz.func193, Tryz.ntmps193
  go_wp2_with (at_builtin; refine Stop.of ?_)
  refine ⟨append_bytes (BOwns.nil w _) hr.src (by simpa using hl) (Nat.le_refl _) rfl rfl rfl rfl ?_⟩
  intro v' w1 hown hg _
  go_wp2
  go_ret
  exact ⟨v', rfl, hown, below_of_nil hg⟩

/-- The call answers the bytes l in the row that v owned, or in new memory. -/
def GivesOn (base : Nat) (w : World) (v : Value) (l : List UInt8) (e : Ending) (w' : World) : Prop := ∃ v', e = .returned v' ∧ BOwns w' base v' l ∧ w.grownBy w' v.ownBlock ∧ OwnFrom w v.ownBlock v'

theorem short_any {w : World} {base : Nat} {v : Value} {l : List UInt8} (n : Int) (hown : BOwns w base v l) (hbase : base ≤ w.heap.size)
    (h0 : -9223372036854775808 ≤ n) (h1 : n ≤ 9223372036854775807) (hl : l.length ≤ 140737488355200) :
    Calls Tryz.prog 211 #[v, .int .i64 n] w (GivesOn base w v (l ++ intF n)) := by
  have H0 := Lib.hid (fold_bits h0 h1)
  have HU := Lib.hid (foldI_lt h0 h1)
  go_enter Tryz.func211, Tryz.ntmps211
  go_wp2
  rw [H0.out]
  go_loopw [0, 5] (fun b u wr => ∃ (U : Nat) (pre : List UInt8), u = .int .u64 U ∧ Hid (U < 18446744073709551616) ∧ Hid (intF n = pre ++ shortF U) ∧ Hid (BOwns wr base b (l ++ pre)) ∧ Hid (w.grownBy wr v.ownBlock) ∧ Hid (OwnFrom w v.ownBlock b))
    (fun _ u _ => (intOf u).toNat)
  case atStart => exact ⟨foldI n, [], rfl, HU, Lib.hid rfl, Lib.hid (by simpa using hown), Lib.hid (World.grownBy.refl _ _), Lib.hid (.inl rfl)⟩
  case round =>
    obtain ⟨U, pre, rfl, hU, hpre, ho, hg, hf⟩ := hrel
    by_cases hlt : (128 : Int) ≤ (U : Int)
    · go_wp2_with (at_builtin; refine Stop.of ?_)
      have hpl : (l ++ pre).length ≤ 140737488355300 := by
        have e := congrArg List.length hpre.out
        have := intF_length h0 h1
        simp only [List.length_append] at e ⊢
        omega
      refine ⟨append_bytes (m := [UInt8.ofNat (U % 128 + 128)]) (ho.out.alloc _) (byte_src wr _ (by rw [or128, u8_int _ (by omega)])) (by simp only [List.length_cons, List.length_nil]; omega) (by have := hg.out.size; simp; omega) rfl rfl rfl rfl ?_⟩
      intro v' w1 ho1 hg1 hf1
      have HO := Lib.hid ho1
      have HG := Lib.hid (grown_step (grown_alloc hg.out _) hf.out hg1)
      have HF := Lib.hid (OwnFrom.step hf.out (by have := hg.out.size; simp; omega) hf1)
      clear ho1 hg1 hf1
      go_wp2
      go_roundw
      case rel => exact ⟨U / 128, pre ++ [UInt8.ofNat (U % 128 + 128)], by go_num, Lib.hid (by have := hU.out; omega), Lib.hid (by rw [hpre.out, shortF_big (u := U) (by omega)]; simp), Lib.hid (by simpa using HO.out), HG, HF⟩
      case measure => simp [intOf]; omega
    · go_wp2_with (at_builtin; refine Stop.of ?_)
      have hpl : (l ++ pre).length ≤ 140737488355300 := by
        have e := congrArg List.length hpre.out
        have := intF_length h0 h1
        simp only [List.length_append] at e ⊢
        omega
      refine ⟨append_bytes (m := [UInt8.ofNat U]) (ho.out.alloc _) (byte_src wr _ (by rw [u8_int _ (by omega)])) (by simp only [List.length_cons, List.length_nil]; omega) (by have := hg.out.size; simp; omega) rfl rfl rfl rfl ?_⟩
      intro v' w1 ho1 hg1 hf1
      have HO := Lib.hid ho1
      have HG := Lib.hid (grown_step (grown_alloc hg.out _) hf.out hg1)
      have HF := Lib.hid (OwnFrom.step hf.out (by have := hg.out.size; simp; omega) hf1)
      clear ho1 hg1 hf1
      go_wp2
      go_ret
      exact ⟨v', rfl, by rw [hpre.out, shortF_small (u := U) (by omega), ← List.append_assoc]; exact HO.out, HG.out, HF.out⟩

/-- A contract that gives bytes, ready for the walk: the value's shape and what was there. -/
theorem GivesB.out {w w' : World} {l : List UInt8} {e : Ending} (h : GivesB w l e w') : ∃ v', e = .returned v' ∧ BOwns w' w.heap.size v' l ∧ Below w.heap.size w w' := h
theorem GivesB.named {w w' : World} {l : List UInt8} {e : Ending} (h : GivesB w l e w') : ∃ (L : List UInt8) (A : Option Addr) (c : Nat), e = .returned (.slice A L.length c) ∧
    Hid (L = l) ∧ Hid (BOwns w' w.heap.size (.slice A L.length c) L) ∧ Hid (BReads w' w'.heap.size A L) ∧ Hid (Below w.heap.size w w') := by
  obtain ⟨v, rfl, ho, hb⟩ := h
  obtain ⟨A, c, rfl, _, hr⟩ := ho.slice
  exact ⟨l, A, c, rfl, rfl, ho, hr, hb⟩
theorem GivesOn.out {base : Nat} {w w' : World} {v : Value} {l : List UInt8} {e : Ending} (h : GivesOn base w v l e w') : ∃ v', e = .returned v' ∧ BOwns w' base v' l ∧ w.grownBy w' v.ownBlock ∧ OwnFrom w v.ownBlock v' := h
theorem below_grown {w w1 w2 : World} {v : Value} {l : List UInt8} (hb : Below w.heap.size w w1) (ho : BOwns w1 w.heap.size v l) (hg : w1.grownBy w2 v.ownBlock) : Below w.heap.size w w2 :=
  hb.grown hg hb.size (fun k hk => (World.ownsRow.lt ho k hk).1)

theorem putInt_any {w : World} {B c : Nat} {A : Option Addr} {l : List UInt8} (n : Int) (hr : BReads w B A l)
    (h0 : -9223372036854775808 ≤ n) (h1 : n ≤ 9223372036854775807) (hl : l.length ≤ 140737488355200) :
    Calls Tryz.prog 175 #[.slice A l.length c, .int .i64 n] w (GivesB w (l ++ intF n)) := by
  go_enter Tryz.func175, Tryz.ntmps175
  go_wp2_with fail
  refine (own_any hr (by omega)).mono ?_
  rintro e w1 h
  obtain ⟨v1, rfl, ho, hb⟩ := h.out
  have HO := Lib.hid ho
  have HB := Lib.hid hb
  clear ho hb h
  go_wp2_with fail
  refine (short_any n HO.out HB.out.size h0 h1 hl).mono ?_
  rintro e w2 h
  obtain ⟨v2, rfl, ho2, hg2, _⟩ := h.out
  have HO2 := Lib.hid ho2
  have HB2 := Lib.hid (below_grown HB.out HO.out hg2)
  clear ho2 hg2 h
  go_wp2
  go_ret
  exact ⟨v2, rfl, HO2.out, HB2.out⟩

theorem putText_any {w : World} {B c : Nat} {A : Option Addr} {l : List UInt8} (s : ByteArray) (hr : BReads w B A l)
    (hs : s.size ≤ 140737488355328) (hl : l.length + s.size ≤ 140737488355200) :
    Calls Tryz.prog 174 #[.slice A l.length c, .string s] w (GivesB w (l ++ intF s.size ++ s.data.toList)) := by
  go_enter Tryz.func174, Tryz.ntmps174
  go_wp2_with fail
  refine (putInt_any (s.size : Int) hr (by omega) (by omega) (by omega)).mono ?_
  rintro e w1 h
  obtain ⟨v1, rfl, ho, hb⟩ := h.out
  have HO := Lib.hid ho
  have HB := Lib.hid hb
  clear ho hb h
  go_wp2_with (at_builtin; refine Stop.of ?_)
  have hil := intF_length (n := (s.size : Int)) (by omega) (by omega)
  have hsl : s.data.toList.length = s.size := by rw [Array.length_toList]; rfl
  refine ⟨append_bytes HO.out (str_src s) (by rw [List.length_append, hsl]; omega) HB.out.size rfl rfl rfl rfl ?_⟩
  intro v' w2 ho2 hg2 _
  have HO2 := Lib.hid ho2
  have HB2 := Lib.hid (below_grown HB.out HO.out hg2)
  clear ho2 hg2 hsl
  go_wp2
  go_ret
  exact ⟨v', rfl, HO2.out, HB2.out⟩

theorem putBytes_any {w : World} {B B' c c' : Nat} {A A' : Option Addr} {l p : List UInt8} (hr : BReads w B A l) (hp : BReads w B' A' p) (hB : B' ≤ w.heap.size)
    (hl : l.length + p.length ≤ 140737488355200) :
    Calls Tryz.prog 176 #[.slice A l.length c, .slice A' p.length c'] w (GivesB w (l ++ intF p.length ++ p)) := by
  have HP := Lib.hid (hp.more hB)
  clear hp
  go_enter Tryz.func176, Tryz.ntmps176
  go_wp2_with fail
  refine (putInt_any (p.length : Int) hr (by omega) (by omega) (by omega)).mono ?_
  rintro e w1 h
  obtain ⟨v1, rfl, ho, hb⟩ := h.out
  have HO := Lib.hid ho
  have HB := Lib.hid hb
  clear ho hb h
  go_wp2_with (at_builtin; refine Stop.of ?_)
  have hil := intF_length (n := (p.length : Int)) (by omega) (by omega)
  refine ⟨append_bytes HO.out (HP.out.below HB.out).src (by rw [List.length_append]; omega) HB.out.size rfl rfl rfl rfl ?_⟩
  intro v' w2 ho2 hg2 _
  have HO2 := Lib.hid ho2
  have HB2 := Lib.hid (below_grown HB.out HO.out hg2)
  clear ho2 hg2
  go_wp2
  go_ret
  exact ⟨v', rfl, HO2.out, HB2.out⟩
end Go.Proofs.YtmnpchncmbnddaaGreat
/- codec.width and codec.Put at every kind: contracts (printed by a program of this claim's own). -/
namespace Go.Proofs.YtmnpchncmbnddaaGreat
open Go.RowKit
theorem pow256 (d : Nat) : ((256 ^ (d + 1) - 1 : Nat) : Int) / 256 = ((256 ^ d - 1 : Nat) : Int) := by
  have h : 0 < 256 ^ d := Nat.pow_pos (by decide)
  rw [Nat.pow_succ]; omega
theorem shr_byte (v d : Nat) {j : Int} (h : j = (d : Int)) : (v : Int) / 2 ^ (8 * j).toNat % 256 = ((v / 256 ^ d % 256 : Nat) : Int) := by
  subst h
  rw [show (8 * (d : Int)).toNat = 8 * d from by omega, show (256 : Nat) ^ d = 2 ^ (8 * d) from by rw [Nat.pow_mul]]
  have : ((2 : Int) ^ (8 * d)) = ((2 ^ (8 * d) : Nat) : Int) := by simp
  rw [this]; omega
theorem shr_byte' (v d : Nat) (hv : v < 256) {j : Int} (h : j = (d : Int)) : (v : Int) / 2 ^ (8 * j).toNat = ((v / 256 ^ d % 256 : Nat) : Int) := by
  rw [← shr_byte v d h]
  subst h
  have : ((2 : Int) ^ (8 * (d : Int)).toNat) = ((2 ^ (8 * (d : Int)).toNat : Nat) : Int) := by simp
  rw [this]
  have h := Nat.div_le_self v (2 ^ (8 * (d : Int)).toNat)
  rw [← Int.natCast_ediv]
  generalize v / 2 ^ (8 * (d : Int)).toNat = q at h ⊢
  omega
theorem width8_any {w : World} : Calls Tryz.prog 197 #[] w fun e w' => e = .returned (.int .i64 1) ∧ w = w' := by
  go_enter Tryz.func197, Tryz.ntmps197
  go_wp2
  go_loop [1, 2] (fun n u => ∃ k d : Nat, n = .int .i64 k ∧ u = .int .u64 ((256 ^ d - 1 : Nat) : Int) ∧ Hid (k + d = 1)) (fun n _ => 1 - (intOf n).toNat)
  case atStart => exact ⟨0, 1, rfl, rfl, Lib.hid rfl⟩
  case round =>
    obtain ⟨k, d, rfl, rfl, hd⟩ := hrel
    have hk2 : k ≤ 1 := by have := hd.out; omega
    cases d with
    | zero =>
      have hk : k = 1 := by have := hd.out; omega
      subst hk
      go_wp2
      go_ret
      exact ⟨rfl, rfl⟩
    | succ d =>
      have hp : 0 < 256 ^ d := Nat.pow_pos (by decide)
      have hb : (0 : Int) < ((256 ^ (d + 1) - 1 : Nat) : Int) := by rw [Nat.pow_succ]; omega
      obtain ⟨X, hX⟩ : ∃ X : Nat, X = 256 ^ (d + 1) - 1 := ⟨_, rfl⟩
      rw [← hX] at hb ⊢
      have HX := Lib.hid hX
      clear hX hp
      go_wp2
      go_round
      case rel => exact ⟨k + 1, d, by go_num, by rw [HX.out, pow256], Lib.hid (by have := hd.out; omega)⟩
      case measure => simp [intOf]; have := hd.out; omega
theorem put8_any {w : World} {B c : Nat} {A : Option Addr} {l : List UInt8} (v : Nat) (hr : BReads w B A l)
    (hv : v < 256) (hl : l.length ≤ 140737488355200) :
    Calls Tryz.prog 173 #[.slice A l.length c, .int .u8 v] w (GivesB w (l ++ beN 1 v)) := by
  have hv' : (v : Int) < 256 := by omega
  have HV := Lib.hid hv
  clear hv
  go_enter Tryz.func173, Tryz.ntmps173
  go_wp2_with fail
  refine (own_any hr (by omega)).mono ?_
  rintro e w1 h
  obtain ⟨L1, A1, c1, rfl, E1, O1, _, B1⟩ := h.named
  clear h
  go_wp2_with fail
  refine width8_any.mono ?_
  rintro e w2 ⟨rfl, rfl⟩
  go_wp2
  go_loopw [0, 5] (fun b i wr => ∃ (j : Int) (k d : Nat) (pre : List UInt8), i = .int .i64 j ∧ Hid (j = (d : Int) - 1) ∧ Hid (k + d = 1) ∧ Hid (beN 1 v = pre ++ beN d v) ∧ Hid (BOwns wr w.heap.size b (l ++ pre)) ∧ Hid (Below w.heap.size w wr)) (fun _ i _ => (intOf i + 1).toNat)
  case atStart => exact ⟨_, 0, 1, [], rfl, Lib.hid (by omega), Lib.hid (by omega), Lib.hid rfl, Lib.hid (by rw [List.append_nil, ← E1.out]; exact O1.out), B1⟩
  case round =>
    obtain ⟨j, k, d, pre, rfl, hj, hd, hpre, ho, hb⟩ := hrel
    by_cases h1 : 0 ≤ j
    · have h2 : j < 8 := by have := hd.out; have := hj.out; omega
      obtain ⟨d, rfl⟩ : ∃ d', d = d' + 1 := ⟨d - 1, by have := hj.out; omega⟩
      have hpl : (l ++ pre).length ≤ 140737488355300 := by
        have e := congrArg List.length hpre.out
        rw [List.length_append, beN_length, beN_length] at e
        rw [List.length_append]; omega
      go_wp2_with (at_builtin; refine Stop.of ?_)
      refine ⟨append_bytes (m := [UInt8.ofNat (v / 256 ^ d % 256)]) (ho.out.alloc _) (byte_src wr _ (by rw [u8_int _ (by omega)]; first | exact shr_byte v d (by have := hj.out; omega) | exact shr_byte' v d HV.out (by have := hj.out; omega))) (by simp only [List.length_cons, List.length_nil]; omega) (by have := hb.out.size; simp; omega) rfl rfl rfl rfl ?_⟩
      intro v' w3 ho1 hg1 _
      have HO := Lib.hid ho1
      have HB := Lib.hid (below_grown (hb.out.trans ((Below.refl _ _).alloc hb.out.size _)) (ho.out.alloc _) hg1)
      clear ho1 hg1 hpl
      go_wp2
      go_roundw
      case rel => exact ⟨_, k + 1, d, pre ++ [UInt8.ofNat (v / 256 ^ d % 256)], rfl, Lib.hid (by have := hj.out; omega), Lib.hid (by have := hd.out; omega), Lib.hid (by rw [hpre.out]; simp [beN]), Lib.hid (by rw [← List.append_assoc]; exact HO.out), HB⟩
      case measure => simp [intOf]; omega
    · go_wp2
      go_ret
      obtain rfl : d = 0 := by have := hj.out; omega
      exact ⟨_, rfl, by rw [hpre.out]; simpa [beN] using ho.out, hb.out⟩
theorem width32_any {w : World} : Calls Tryz.prog 212 #[] w fun e w' => e = .returned (.int .i64 4) ∧ w = w' := by
  go_enter Tryz.func212, Tryz.ntmps212
  go_wp2
  go_loop [1, 2] (fun n u => ∃ k d : Nat, n = .int .i64 k ∧ u = .int .u64 ((256 ^ d - 1 : Nat) : Int) ∧ Hid (k + d = 4)) (fun n _ => 4 - (intOf n).toNat)
  case atStart => exact ⟨0, 4, rfl, rfl, Lib.hid rfl⟩
  case round =>
    obtain ⟨k, d, rfl, rfl, hd⟩ := hrel
    have hk2 : k ≤ 4 := by have := hd.out; omega
    cases d with
    | zero =>
      have hk : k = 4 := by have := hd.out; omega
      subst hk
      go_wp2
      go_ret
      exact ⟨rfl, rfl⟩
    | succ d =>
      have hp : 0 < 256 ^ d := Nat.pow_pos (by decide)
      have hb : (0 : Int) < ((256 ^ (d + 1) - 1 : Nat) : Int) := by rw [Nat.pow_succ]; omega
      obtain ⟨X, hX⟩ : ∃ X : Nat, X = 256 ^ (d + 1) - 1 := ⟨_, rfl⟩
      rw [← hX] at hb ⊢
      have HX := Lib.hid hX
      clear hX hp
      go_wp2
      go_round
      case rel => exact ⟨k + 1, d, by go_num, by rw [HX.out, pow256], Lib.hid (by have := hd.out; omega)⟩
      case measure => simp [intOf]; have := hd.out; omega
end Go.Proofs.YtmnpchncmbnddaaGreat
/- The reader's inner functions: reading$1 (the deferred closure), take. -/
namespace Go.Proofs.YtmnpchncmbnddaaGreat
open Go.RowKit

/-- Block g of w is just the cells cs of element type t, none of them frozen. -/
def Blk (w : World) (g : Nat) (t : TypeId) (cs : Array Value) : Prop := w.heap[g]? = some (.cells cs t (0, 0))
section
variable {w w' : World} {g : Nat} {t : TypeId} {cs : Array Value}
theorem Blk.lt (h : Blk w g t cs) : g < w.heap.size := by
  rcases Nat.lt_or_ge g w.heap.size with hlt | hge
  · exact hlt
  · unfold Blk at h; rw [Array.getElem?_eq_none hge] at h; cases h
theorem Blk.cell (h : Blk w g t cs) (i : Nat) : w.cell? ⟨g, i, none⟩ = cs[i]? := cell_of_row w g i cs t (0, 0) h
theorem Blk.frozen (h : Blk w g t cs) (i : Nat) : w.frozen? ⟨g, i, none⟩ = false := by
  unfold Blk at h
  simp [World.frozen?, h]
theorem Blk.new (w : World) (t : TypeId) (cs : Array Value) : Blk (w.alloc (.cells cs t)) w.heap.size t cs := heap_alloc_new w _
theorem Blk.drewN (h : Blk w g t cs) (n : Nat) : Blk (w.drewN n) g t cs := h
theorem Blk.alloc (h : Blk w g t cs) (o : Obj) : Blk (w.alloc o) g t cs := (Below.heap_alloc w o g h.lt).trans h
theorem Blk.set_ (h : Blk w g t cs) (i : Nat) (u : Value) : Blk (w.setCell ⟨g, i, none⟩ u) g t (cs.setIfInBounds i u) := by
  unfold Blk at h ⊢
  simp [World.setCell, Array.getElem?_modify, h]
theorem Blk.far (h : Blk w g t cs) {p : Addr} (hp : g ≠ p.block) (u : Value) : Blk (w.setCell p u) g t cs := (Below.heap_setCell w p u g hp).trans h
theorem Blk.below {B : Nat} (h : Blk w g t cs) (hb : Below B w w') (hg : g < B) : Blk w' g t cs := (hb.block g hg).trans h
end

/-- The type switch's closure, where the frame below returns: nothing is turned. -/
theorem reading1_idle (p q : Addr) (w : World) :
    CallsD Tryz.prog 218 #[.pointer (some p), .pointer (some q)] .returning w fun e u' w' => e = .returned (.tuple #[]) ∧ u' = .returning ∧ w' = w := by
  refine callsD_of_wpS Tryz.func218 rfl fun c₀ cs hu => ?_
  simp only [Tryz.ntmps218, List.size_toArray, List.length_cons, List.length_nil, Nat.reduceAdd, Nat.reduceSub, Array.replicate_succ, Array.replicate_zero, List.push_toArray, List.append_toArray, List.nil_append, List.cons_append]
  apply wpS_seq
  apply wpS_region
  simp [wpOpsS, go_sem, recoverD, hu, Exit.thenS]
  refine wpS_of_wp ?_
  have HU := Lib.hid hu
  clear hu
  generalize hQ : bodyPostS Tryz.prog Tryz.f218 c₀ cs _ = Q
  have HQ := Lib.hid hQ
  clear hQ
  go_wp2
  rw [← HQ.out]
  cases c₀
  simp only at HU
  simp_all [bodyPostS, results, Tryz.results218, Hid]
theorem assert_errno (m : Int) (w : World) : (Instr.typeAssert (.iface 42 (.int .i64 m)) 20 42 true).run Tryz.prog w = .ok (.tuple #[.int .i64 m, .bool true]) w := by
  simp [Instr.typeAssert, run_underlying Tryz.underlying42]
set_option maxRecDepth 100000 in
theorem reading1_catch (b r g : Nat) (n m : Int) (begin : Int) (older : List PanicEntry) (s : Value) (w : World)
    (hb : Blk w b 3 #[.int .i64 begin]) (hr : Blk w r 229 #[.pointer (some ⟨g, 0, none⟩)]) (hg : Blk w g 270 #[s, .int .i64 n, .int .i64 0]) :
    CallsD Tryz.prog 218 #[.pointer (some ⟨b, 0, none⟩), .pointer (some ⟨r, 0, none⟩)] (.panicking ({ v := .iface 42 (.int .i64 m), recovered := false } :: older)) w fun e u' w' =>
      e = .returned (.tuple #[]) ∧ u' = .panicking ({ v := .iface 42 (.int .i64 m), recovered := true } :: older) ∧ w' = (w.setCell ⟨g, 1, none⟩ (.int .i64 begin)).setCell ⟨g, 2, none⟩ (.int .i64 m) := by
  have hta := assert_errno
  have h1 := hb.cell 0
  have h2 := hr.cell 0
  have h3 := hg.cell 1
  have h4 := hg.cell 2
  have f3 := hg.frozen 1
  have f4 := hg.frozen 2
  simp at h1 h2 h3 h4
  refine callsD_of_wpS Tryz.func218 rfl fun c₀ cs hu => ?_
  simp only [Tryz.ntmps218, List.size_toArray, List.length_cons, List.length_nil, Nat.reduceAdd, Nat.reduceSub, Array.replicate_succ, Array.replicate_zero, List.push_toArray, List.append_toArray, List.nil_append, List.cons_append]
  apply wpS_seq
  apply wpS_region
  simp [wpOpsS, go_sem, recoverD, hu, Exit.thenS]
  refine wpS_of_wp ?_
  have HU := Lib.hid hu
  clear hu
  generalize hQ : bodyPostS Tryz.prog Tryz.f218 c₀ cs _ = Q
  have HQ := Lib.hid hQ
  clear hQ
  go_wp2
  rw [← HQ.out]
  cases c₀
  simp [bodyPostS, results, Tryz.results218]

/-- The panic that gives up with error m. -/
def gaveUp (m : Int) : Ending := .panicked [{ v := .iface 42 (.int .i64 m), recovered := false }]
/-- The slice A of the bytes l lies in a block of bytes. -/
def Ours (w : World) (A : Option Addr) (l : List UInt8) : Prop := 0 < l.length → ∃ b o cur fr, A = some ⟨b, o, none⟩ ∧ w.heap[b]? = some (.cells cur 5 fr)
theorem Ours.keep {w w' : World} {B : Nat} {A : Option Addr} {l : List UInt8} (h : Ours w A l) (hr : BReads w B A l) (hk : ∀ i, i < B → w'.heap[i]? = w.heap[i]?) : Ours w' A l := fun hp => by
  obtain ⟨b, o, cur, fr, e, hh⟩ := h hp
  obtain ⟨b', o', e', hb, _⟩ := hr.2 hp
  rw [e] at e'
  injection e' with e'
  injection e' with e' _ _
  subst e'
  exact ⟨b, o, cur, fr, e, (hk b hb).trans hh⟩
/-- A reader in block g: its bytes (the slice A of capacity c, which reads as l), its place, its fault. -/
structure RdAt (w : World) (g : Nat) (A : Option Addr) (c : Nat) (l : List UInt8) (at_ : Nat) (fault : Int) : Prop where
  blk : Blk w g 270 #[.slice A l.length c, .int .i64 at_, .int .i64 fault]
  reads : BReads w g A l
  cap : l.length ≤ c
  le : at_ ≤ l.length
  small : l.length ≤ 140737488355328
  ours : Ours w A l

theorem drewN_grown (w : World) (m : Nat) (row : Option Nat) : w.grownBy (w.drewN m) row := ⟨rfl, rfl, rfl, Nat.le_refl _, fun _ _ _ => rfl⟩
theorem grown_trans {a b c : World} {row : Option Nat} (h : a.grownBy b row) (k : b.grownBy c row) : a.grownBy c row :=
  ⟨k.os.trans h.os, k.tape.trans h.tape, k.output.trans h.output, Nat.le_trans h.size k.size, fun i hi hn => (k.block i (Nat.lt_of_lt_of_le hi h.size) hn).trans (h.block i hi hn)⟩
theorem grown_setCell (w : World) (g o : Nat) (u : Value) : w.grownBy (w.setCell ⟨g, o, none⟩ u) (some g) :=
  ⟨rfl, rfl, rfl, by simp [World.setCell], fun k _ hk => Below.heap_setCell w _ u k (fun e => hk (by rw [e]))⟩

theorem RdAt.drewN {w : World} {g : Nat} {A : Option Addr} {c : Nat} {l : List UInt8} {at_ : Nat} {f : Int} (h : RdAt w g A c l at_ f) (m : Nat) : RdAt (w.drewN m) g A c l at_ f := ⟨h.blk, h.reads, h.cap, h.le, h.small, h.ours⟩
theorem RdAt.moved {w : World} {g : Nat} {A : Option Addr} {c : Nat} {l : List UInt8} {at_ : Nat} {f : Int} (h : RdAt w g A c l at_ f) (a b k : Nat) {v : Int} (hv : v = (k : Int)) (hk : k ≤ l.length) :
    RdAt (((w.drewN a).setCell ⟨g, 1, none⟩ (.int .i64 v)).drewN b) g A c l k f := by
  subst hv
  refine ⟨?_, ?_, h.cap, hk, h.small, h.ours.keep h.reads (fun i hi => Below.heap_setCell (w.drewN a) _ _ i (by show i ≠ g; omega))⟩
  · have := (h.blk.drewN a).set_ 1 (.int .i64 (k : Int))
    exact (show Blk ((w.drewN a).setCell ⟨g, 1, none⟩ (.int .i64 (k : Int))) g _ _ from by simpa using this)
  · exact (Reads.setCell (w := w.drewN a) (p := ⟨g, 1, none⟩) h.reads (Nat.le_refl _) _)
theorem reads_sub {w : World} {B : Nat} {A : Option Addr} {l : List UInt8} (h : BReads w B A l) {at_ n c : Nat} (hn : at_ + n ≤ l.length) (hc : l.length ≤ c) :
    BReads w B (if c = at_ then A else A.map (·.add at_)) ((l.drop at_).take n) := by
  have hlen : ((l.drop at_).take n).length = n := by rw [List.length_take, List.length_drop]; omega
  refine ⟨by rw [bys_length, Nat.mul_one], fun hp => ?_⟩
  rw [hlen] at hp
  obtain ⟨b, off, rfl, hb, hcell⟩ := h.2 (by omega)
  rw [if_neg (by omega)]
  refine ⟨b, off + at_, by rw [Option.map_some, add_lit0], hb, fun j u hu => ?_⟩
  rw [Nat.add_assoc]
  refine hcell (at_ + j) u ?_
  have hj : j < n := by have := (List.getElem?_eq_some_iff.1 hu).1; rw [bys_length, hlen] at this; exact this
  rw [← hu, bys_get, bys_get, List.getElem?_take, if_pos hj, List.getElem?_drop]
theorem reads_sub_eq {w : World} {B : Nat} {A : Option Addr} {l : List UInt8} (h : BReads w B A l) {at_ n c : Nat} (hn : at_ + n ≤ l.length) (hc : l.length ≤ c) (e : c = at_) : BReads w B A ((l.drop at_).take n) := by
  have := reads_sub h hn hc; rwa [if_pos e] at this
theorem reads_sub_ne {w : World} {B : Nat} {A : Option Addr} {l : List UInt8} (h : BReads w B A l) {at_ n c : Nat} (hn : at_ + n ≤ l.length) (hc : l.length ≤ c) (e : ¬ c = at_) : BReads w B (A.map (·.add at_)) ((l.drop at_).take n) := by
  have := reads_sub h hn hc; rwa [if_neg e] at this

theorem take_cut {w : World} {g : Nat} {A : Option Addr} {c : Nat} {l : List UInt8} {at_ : Nat} {f : Int} (h : RdAt w g A c l at_ f) (n : Int) (hn : (l.length : Int) - at_ < n) :
    Calls Tryz.prog 196 #[.pointer (some ⟨g, 0, none⟩), .int .i64 n] w fun e w' => e = gaveUp 20 ∧ ∃ m, w' = w.drewN m := by
  have h0 := h.blk.cell 0
  have h1 := h.blk.cell 1
  have hs := h.small
  have hle := h.le
  simp at h0 h1
  go_enter Tryz.func196, Tryz.ntmps196
  go_wp2
  go_quiet (fail)
  go_wp2
  exact ⟨rfl, rfl, _, rfl⟩
theorem take_ok {w : World} {g : Nat} {A : Option Addr} {c : Nat} {l : List UInt8} {at_ : Nat} {f : Int} (HR : RdAt w g A c l at_ f) (n : Nat) (hn : at_ + n ≤ l.length) :
    Calls Tryz.prog 196 #[.pointer (some ⟨g, 0, none⟩), .int .i64 n] w fun e w' =>
      ∃ A', e = .returned (.slice A' n (c - at_)) ∧ Hid (RdAt w' g A c l (at_ + n) f) ∧ Hid (w.grownBy w' (some g)) ∧ Hid (BReads w' g A' ((l.drop at_).take n)) := by
  have h0 := HR.blk.cell 0
  have h1 := HR.blk.cell 1
  have hs := HR.small
  have hle := HR.le
  have hc := HR.cap
  have fz := HR.blk.frozen 1
  have hn' : ¬ ((l.length : Int) - at_ < n) := by omega
  simp at h0 h1
  go_enter Tryz.func196, Tryz.ntmps196
  go_wp2
  go_quiet (fail)
  go_wp2
  go_quiet (fail)
  go_wp2
  · have he := h
    go_ret
    subst he
    exact ⟨_, rfl, HR.moved _ _ (c + n) (by omega) (by omega), grown_trans (grown_trans (drewN_grown _ _ _) (grown_setCell _ _ _ _)) (drewN_grown _ _ _), reads_sub_eq (HR.moved _ _ (c + n) (by omega) (by omega)).reads hn hc rfl⟩
  · have he := h
    go_ret
    exact ⟨_, rfl, HR.moved _ _ (at_ + n) (by omega) (by omega), grown_trans (grown_trans (drewN_grown _ _ _) (grown_setCell _ _ _ _)) (drewN_grown _ _ _), reads_sub_ne (HR.moved _ _ (at_ + n) (by omega) (by omega)).reads hn hc he⟩
end Go.Proofs.YtmnpchncmbnddaaGreat
