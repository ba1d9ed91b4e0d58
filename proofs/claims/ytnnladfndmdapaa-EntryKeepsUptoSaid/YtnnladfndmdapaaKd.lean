/- How data of a Lean type lies in cells: numbers, bools, strings, bytes, slices, structs; and that whatever a row's reading of an argument meets is such data. -/
import Derived.Test.YtnnladfndmdapaaBase
import Derived.Test.YtnnladfndmdapaaRows
import Derived.ProofKit
import Derived.Deep.Slices
import Derived.SizedLaws
import Derived.ChangeSlices
namespace Go.Proofs.Ytnnladfndmdapaa
open Go.RowKit Go.ChangeShapes Go.WideShapes

/-- How data of a Lean type lies in cells: 'R w B a cs': the cells cs bear a, and all that they lead to lies below block B. -/
structure Kd (α : Type) where
  size : Nat
  R : World → Nat → α → List Value → Prop
  bulk : α → Nat
  fits : α → Prop
  len : ∀ {w : World} {B : Nat} {a : α} {cs : List Value}, R w B a cs → cs.length = size
  keep : ∀ {w w' : World} {B : Nat} {a : α} {cs : List Value}, R w B a cs → (∀ p : Addr, p.block < B → w'.cell? p = w.cell? p) → R w' B a cs
  more : ∀ {w : World} {B B' : Nat} {a : α} {cs : List Value}, R w B a cs → B ≤ B' → R w B' a cs

def kInt (k : IntKind) : Kd Int where
  size := 1
  R := fun _ _ n cs => cs = [.int k n] ∧ (Lit.int k n).wf = true
  bulk := fun _ => 1
  fits := fun _ => True
  len := fun h => by rw [h.1]; rfl
  keep := fun h _ => h
  more := fun h _ => h
def kBool : Kd Bool where
  size := 1
  R := fun _ _ b cs => cs = [.bool b]
  bulk := fun _ => 1
  fits := fun _ => True
  len := fun h => by rw [h]; rfl
  keep := fun h _ => h
  more := fun h _ => h
def kStr : Kd ByteArray where
  size := 1
  R := fun _ _ s cs => cs = [.string s]
  bulk := fun s => s.size + 1
  fits := fun s => s.size ≤ reachBytes
  len := fun h => by rw [h]; rfl
  keep := fun h _ => h
  more := fun h _ => h
def kBytes : Kd (List UInt8) where
  size := 1
  R := fun w B l cs => ∃ A c, cs = [.slice A l.length c] ∧ l.length ≤ c ∧ BReads w B A l
  bulk := fun l => l.length + 1
  fits := fun l => l.length ≤ reachBytes
  len := fun ⟨_, _, h, _⟩ => by rw [h]; rfl
  keep := fun ⟨A, c, h, hc, hr⟩ hk => ⟨A, c, h, hc, Reads.keep hr hk⟩
  more := fun ⟨A, c, h, hc, hr⟩ hB => ⟨A, c, h, hc, hr.more hB⟩
/-- The list's elements lie one behind the other from offset off on in block b. -/
def Kd.Row {α : Type} (K : Kd α) (w : World) (B b off : Nat) (l : List α) : Prop :=
  ∀ j x, l[j]? = some x → ∃ cs, K.R w B x cs ∧ ∀ t u, cs[t]? = some u → w.cell? ⟨b, off + j * K.size + t, none⟩ = some u
theorem Kd.Row.keep {α : Type} {K : Kd α} {w w' : World} {B b off : Nat} {l : List α} (h : K.Row w B b off l) (hb : b < B) (hk : ∀ p : Addr, p.block < B → w'.cell? p = w.cell? p) : K.Row w' B b off l :=
  fun j x hx => by
    obtain ⟨cs, hr, hc⟩ := h j x hx
    exact ⟨cs, K.keep hr hk, fun t u hu => (hk _ hb).trans (hc t u hu)⟩
def Kd.Sl {α : Type} (K : Kd α) (w : World) (B : Nat) (A : Option Addr) (l : List α) : Prop :=
  0 < l.length → ∃ b off, A = some ⟨b, off, none⟩ ∧ b < B ∧ K.Row w B b off l
theorem Kd.Sl.keep {α : Type} {K : Kd α} {w w' : World} {B : Nat} {A : Option Addr} {l : List α} (h : K.Sl w B A l) (hk : ∀ p : Addr, p.block < B → w'.cell? p = w.cell? p) : K.Sl w' B A l :=
  fun hl => by
    obtain ⟨b, off, hA, hb, hr⟩ := h hl
    exact ⟨b, off, hA, hb, hr.keep hb hk⟩
theorem Kd.Sl.below {α : Type} {K : Kd α} {w w' : World} {B : Nat} {A : Option Addr} {l : List α} (h : K.Sl w B A l) (hb : Below B w w') : K.Sl w' B A l := h.keep fun _ hp => hb.cell hp
theorem Kd.Sl.more {α : Type} {K : Kd α} {w : World} {B B' : Nat} {A : Option Addr} {l : List α} (h : K.Sl w B A l) (hB : B ≤ B') : K.Sl w B' A l :=
  fun hl => by
    obtain ⟨b, off, hA, hb, hr⟩ := h hl
    refine ⟨b, off, hA, by omega, fun j x hx => ?_⟩
    obtain ⟨cs, hr, hc⟩ := hr j x hx
    exact ⟨cs, K.more hr hB, hc⟩
def kSlice {α : Type} (K : Kd α) : Kd (List α) where
  size := 1
  R := fun w B l cs => ∃ A c, cs = [.slice A l.length c] ∧ l.length ≤ c ∧ K.Sl w B A l
  bulk := fun l => (l.map K.bulk).sum + 1
  fits := fun l => l.length ≤ reachBytes ∧ ∀ x ∈ l, K.fits x
  len := fun ⟨_, _, h, _⟩ => by rw [h]; rfl
  keep := fun ⟨A, c, h, hc, hr⟩ hk => ⟨A, c, h, hc, hr.keep hk⟩
  more := fun ⟨A, c, h, hc, hr⟩ hB => ⟨A, c, h, hc, hr.more hB⟩
def kPair {α β : Type} (K : Kd α) (L : Kd β) : Kd (α × β) where
  size := K.size + L.size
  R := fun w B x cs => ∃ c1 c2, cs = c1 ++ c2 ∧ K.R w B x.1 c1 ∧ L.R w B x.2 c2
  bulk := fun x => K.bulk x.1 + L.bulk x.2
  fits := fun x => K.fits x.1 ∧ L.fits x.2
  len := fun ⟨c1, c2, h, h1, h2⟩ => by rw [h, List.length_append, K.len h1, L.len h2]
  keep := fun ⟨c1, c2, h, h1, h2⟩ hk => ⟨c1, c2, h, K.keep h1 hk, L.keep h2 hk⟩
  more := fun ⟨c1, c2, h, h1, h2⟩ hB => ⟨c1, c2, h, K.more h1 hB, L.more h2 hB⟩
/-- The same under another name. -/
def kAs {α β : Type} (K : Kd α) (f : β → α) : Kd β where
  size := K.size
  R := fun w B x cs => K.R w B (f x) cs
  bulk := fun x => K.bulk (f x)
  fits := fun x => K.fits (f x)
  len := fun h => K.len h
  keep := fun h hk => K.keep h hk
  more := fun h hB => K.more h hB

/-- Whatever the row's reading meets at type T is data of this kind. -/
structure Opens {α : Type} (K : Kd α) (T : TypeId) : Prop where
  size : Try.prog.cellsOf T = K.size
  go : ∀ {H : Type} {enc : TypeId × Value → H} {w : World} {base fuel : Nat} {spare : Nat → Bool} {held : Bool} {cs : List Value} {x : DataW H × List MemPlace},
    DataW.trod enc Try.prog w base spare held fuel T cs = some x →
    ∃ a, K.R w w.heap.size a cs ∧ K.bulk a ≤ Rows.uptoBulk x.1 ∧ ((∀ n ∈ x.1.weights Try.prog T, n ≤ reachBytes) → K.fits a)

theorem opens_int {k : IntKind} {T : TypeId} (hs : Try.prog.cellsOf T = 1) (hu : Try.prog.underlying T = some (.int k)) : Opens (kInt k) T :=
  ⟨hs, fun h => by
    obtain ⟨n, rfl, rfl, hw⟩ := DataW.trod_int hu h
    exact ⟨n, ⟨rfl, hw⟩, by simp [kInt, Rows.uptoBulk], fun _ => trivial⟩⟩
theorem opens_bool {T : TypeId} (hs : Try.prog.cellsOf T = 1) (hu : Try.prog.underlying T = some .bool) : Opens kBool T :=
  ⟨hs, fun h => by
    obtain ⟨b, rfl, rfl⟩ := DataW.trod_bool hu h
    exact ⟨b, rfl, by simp [kBool, Rows.uptoBulk], fun _ => trivial⟩⟩
theorem opens_str {T : TypeId} (hs : Try.prog.cellsOf T = 1) (hu : Try.prog.underlying T = some .string) : Opens kStr T :=
  ⟨hs, fun h => by
    obtain ⟨s, rfl, rfl, _⟩ := DataW.trod_string hu h
    have e : s.data.toList.length = s.size := by rw [Array.length_toList]; rfl
    refine ⟨s, rfl, ?_, fun hw => ?_⟩
    · simp only [kStr, Rows.uptoBulk, e]; omega
    · have := hw s.data.toList.length (by simp [DataW.weights])
      rw [e] at this; exact this⟩

theorem bulk_one {H : Type} (d : DataW H) : 1 ≤ Rows.uptoBulk d := by
  cases d with
  | lit l => cases l <;> simp [Rows.uptoBulk]
  | nil => simp [Rows.uptoBulk]
  | ptr d => simp [Rows.uptoBulk]
  | slice elems spare => simp [Rows.uptoBulk]
  | agg parts => simp [Rows.uptoBulk]
  | iface t d => simp [Rows.uptoBulk]
  | map entries => simp [Rows.uptoBulk]
  | held h => simp [Rows.uptoBulk]
theorem bulk_length {H : Type} (l : List (DataW H)) : l.length ≤ Rows.uptoBulkAll l := by
  induction l with
  | nil => simp [Rows.uptoBulkAll]
  | cons x r ih => have := bulk_one x; simp only [Rows.uptoBulkAll, List.length_cons]; omega
theorem addr_none {w : World} {a : Addr} {v : Value} (h : w.cell? a = some v) : a.spot = none := World.cell?_spot h

theorem opens_bytes {T E : TypeId} (hs : Try.prog.cellsOf T = 1) (hu : Try.prog.underlying T = some (.slice E)) (he : Try.prog.underlying E = some (.int .u8)) (hc : Try.prog.cellsOf E = 1) (hb : Try.prog.bytesOf E = 1) : Opens kBytes T :=
  ⟨hs, fun {H enc w base fuel spare held cs x} h => by
    rcases open_ints hu he hc h with ⟨rfl, rfl⟩ | ⟨a, len, cap, zs, rfl, _, hl, _, hz, rfl, hcell, hwf⟩
    · exact ⟨[], ⟨none, 0, rfl, Nat.le_refl _, Reads.none_⟩, by simp [kBytes, Rows.uptoBulk], fun _ => by simp [kBytes]⟩
    · have hle : len ≤ zs.length := by rw [hz]; split <;> omega
      have hlen : ((zs.take len).map fun n => UInt8.ofNat n.toNat).length = len := by rw [List.length_map, List.length_take]; omega
      have hget : ∀ j, j < len → ((zs.take len).map fun n => UInt8.ofNat n.toNat)[j]? = some (UInt8.ofNat (zs.getD j 0).toNat) := by
        intro j hj
        have hj' : j < zs.length := by omega
        rw [List.getElem?_map, List.getElem?_take, if_pos hj, List.getD, List.getElem?_eq_getElem hj']; rfl
      refine ⟨(zs.take len).map fun n => UInt8.ofNat n.toNat, ⟨some a, cap, by rw [hlen], by rw [hlen]; exact hl, ?_⟩, ?_, fun hw => ?_⟩
      · refine ⟨by rw [bys_length, Nat.mul_one], fun hn => ?_⟩
        rw [hlen] at hn
        have h0 := hcell 0 (by omega)
        obtain ⟨b, off, spot⟩ := a
        have hsp : spot = none := by simpa [Addr.add] using addr_none h0
        subst hsp
        refine ⟨b, off, rfl, ?_, fun j u hu => ?_⟩
        · have := World.block_lt_of_cell? w _ h0
          rw [block_of_add] at this; exact this
        · have hj : j < len := by
            have := (List.getElem?_eq_some_iff.1 hu).1
            rw [bys_length, hlen] at this; exact this
          rw [bys_get, hget j hj] at hu
          have e := hcell j (by omega)
          rw [add_lit0] at e
          rw [e, ← hu]
          have hj' : j < zs.length := by omega
          have hw := hwf (zs.getD j 0) (by rw [List.getD, List.getElem?_eq_getElem hj']; exact List.getElem_mem hj')
          have hr : 0 ≤ zs.getD j 0 ∧ zs.getD j 0 ≤ 255 := by simpa [Lit.wf, IntKind.min, IntKind.max, IntKind.signed, IntKind.bits] using hw
          simp only [Option.map_some]
          rw [u8_int _ (by omega), Int.toNat_of_nonneg hr.1]
      · have := bulk_length (lits (H := H) .u8 (zs.take len))
        simp only [kBytes, Rows.uptoBulk, hlen]
        have e : (lits (H := H) .u8 (zs.take len)).length = len := by simp [lits]; omega
        omega
      · have := hw ((lits (H := H) .u8 (zs.take len)).length + (lits (H := H) .u8 (zs.drop len)).length) (by simp [DataW.weights, hu, hb])
        simp only [kBytes, hlen]
        have e : (lits (H := H) .u8 (zs.take len)).length = len := by simp [lits]; omega
        omega⟩

theorem weights_all_mem {H : Type} {P : Program} {e : TypeId} : ∀ {l : List (DataW H)} {j : Nat} {d : DataW H}, l[j]? = some d → ∀ n ∈ d.weights P e, n ∈ DataW.weightsAll P e l
  | d0 :: l, 0, d, hd, n, hn => by
    simp only [List.getElem?_cons_zero, Option.some.injEq] at hd; subst hd
    simp only [DataW.weightsAll, List.mem_append]; exact Or.inl hn
  | d0 :: l, j + 1, d, hd, n, hn => by
    simp only [List.getElem?_cons_succ] at hd
    simp only [DataW.weightsAll, List.mem_append]; exact Or.inr (weights_all_mem hd n hn)
  | [], _, _, hd, _, _ => by simp at hd
theorem choose_lt' {α : Type} {n : Nat} {p : Nat → α → Prop} (h : ∀ i, i < n → ∃ a, p i a) : ∃ l : List α, l.length = n ∧ ∀ i a, l[i]? = some a → p i a := by
  induction n with
  | zero => exact ⟨[], rfl, fun i a h => by simp at h⟩
  | succ n ih =>
    obtain ⟨l, hl, hp⟩ := ih (fun i hi => h i (by omega))
    obtain ⟨a, ha⟩ := h n (by omega)
    refine ⟨l ++ [a], by simp [hl], fun i x hx => ?_⟩
    by_cases hi : i < n
    · rw [List.getElem?_append_left (by omega)] at hx; exact hp i x hx
    · rw [List.getElem?_append_right (by omega)] at hx
      have : i - l.length = 0 := by
        have := (List.getElem?_eq_some_iff.1 hx).1
        simp at this; omega
      rw [this] at hx
      simp only [List.getElem?_cons_zero, Option.some.injEq] at hx
      subst hx
      have : i = n := by omega
      subst this; exact ha
theorem sum_bulk {α : Type} {H : Type} (f : α → Nat) : ∀ (l : List α) (ds : List (DataW H)), l.length ≤ ds.length → (∀ (i : Nat) (a : α) (d : DataW H), l[i]? = some a → ds[i]? = some d → f a ≤ Rows.uptoBulk d) → (l.map f).sum ≤ Rows.uptoBulkAll ds
  | [], _, _, _ => by simp
  | a :: l, [], h, _ => by simp at h
  | a :: l, d :: ds, h, hp => by
    have h1 := hp 0 a d rfl rfl
    have h2 := sum_bulk f l ds (by simpa using h) (fun i a d ha hd => hp (i + 1) a d (by simpa using ha) (by simpa using hd))
    simp only [List.map_cons, List.sum_cons, Rows.uptoBulkAll]; omega

theorem opens_slice {α : Type} {K : Kd α} {T E : TypeId} (hs : Try.prog.cellsOf T = 1) (hu : Try.prog.underlying T = some (.slice E)) (he : Opens K E) (hK : 0 < K.size) (hb : 0 < Try.prog.bytesOf E) : Opens (kSlice K) T :=
  ⟨hs, fun {H enc w base fuel spare held cs x} h => by
    rcases Go.Deep.open_slice hu h with ⟨rfl, rfl⟩ | ⟨a, len, cap, m, n, D, Pl, rfl, _, hl, _, hm, rfl, hx⟩
    · exact ⟨[], ⟨none, 0, rfl, Nat.le_refl _, fun h => absurd h (by simp)⟩, by simp [kSlice, Rows.uptoBulk], fun _ => by simp [kSlice]⟩
    · have hlm : len ≤ m := by rw [hm]; split <;> omega
      obtain ⟨l, hlen, hp⟩ := choose_lt' (n := len) (p := fun i y => (∃ cs', w.cells? base (a.add (i * Try.prog.cellsOf E)) (Try.prog.cellsOf E) = some cs' ∧ K.R w w.heap.size y cs') ∧ K.bulk y ≤ Rows.uptoBulk (D i) ∧ ((∀ n ∈ (D i).weights Try.prog E, n ≤ reachBytes) → K.fits y)) (fun i hi => by
        obtain ⟨cs', h1, h2⟩ := hx i (by omega)
        obtain ⟨y, r1, r2, r3⟩ := he.go h2
        exact ⟨y, ⟨cs', h1, r1⟩, r2, r3⟩)
      refine ⟨l, ⟨some a, cap, by rw [hlen], by rw [hlen]; exact hl, fun hpos => ?_⟩, ?_, fun hw => ?_⟩
      · have hcs : ∀ i, i < len → ∃ y cs', l[i]? = some y ∧ w.cells? base (a.add (i * K.size)) K.size = some cs' ∧ K.R w w.heap.size y cs' := by
          intro i hi
          have hg : l[i]? = some l[i] := List.getElem?_eq_getElem (by omega)
          obtain ⟨⟨cs', h1, h2⟩, _⟩ := hp i _ hg
          rw [he.size] at h1
          exact ⟨_, cs', hg, h1, h2⟩
        obtain ⟨y0, cs0, _, g0, r0⟩ := hcs 0 (by omega)
        have hlen0 := K.len r0
        obtain ⟨_, hl0, hc0⟩ := World.cells?_some g0
        have c0 := hc0 0 (by omega)
        obtain ⟨b, off, spot⟩ := a
        have e0 : w.cell? (((⟨b, off, spot⟩ : Addr).add (0 * K.size)).add 0) = some (cs0[0]'(by omega)) := by
          rw [c0]; exact List.getElem?_eq_getElem (by omega)
        have hsp : spot = none := by simpa [Addr.add] using addr_none e0
        subst hsp
        have hblt : b < w.heap.size := by
          have := World.block_lt_of_cell? w _ e0
          rw [block_of_add, block_of_add] at this; exact this
        refine ⟨b, off, rfl, hblt, fun j y hy => ?_⟩
        have hj : j < len := by have := (List.getElem?_eq_some_iff.1 hy).1; omega
        obtain ⟨y', cs', hy', h1, h2⟩ := hcs j hj
        rw [hy] at hy'
        injection hy' with hy'
        subst hy'
        refine ⟨cs', h2, fun t u hu => ?_⟩
        obtain ⟨_, hl', hc'⟩ := World.cells?_some h1
        have ht : t < K.size := by have := (List.getElem?_eq_some_iff.1 hu).1; rw [K.len h2] at this; exact this
        have := hc' t ht
        rw [add_lit0, add_lit0, hu] at this
        exact this
      · simp only [kSlice, Rows.uptoBulk]
        have := sum_bulk K.bulk l ((List.range len).map D) (by simp [hlen]) (fun i y d hy hd => by
          have hi : i < len := by have := (List.getElem?_eq_some_iff.1 hy).1; omega
          simp only [List.getElem?_map, List.getElem?_range hi, Option.map_some, Option.some.injEq] at hd
          subst hd
          exact (hp i y hy).2.1)
        omega
      · refine ⟨?_, ?_⟩
        · have h1 := hw ((((List.range len).map D).length + ((List.range (m - len)).map fun j => D (len + j)).length) * Try.prog.bytesOf E) (by simp [DataW.weights, hu])
          simp only [List.length_map, List.length_range] at h1
          rw [hlen]
          exact Nat.le_trans (Nat.le_trans (Nat.le_add_right _ _) (Nat.le_mul_of_pos_right _ hb)) h1
        intro y hy
        obtain ⟨i, hi⟩ := List.getElem?_of_mem hy
        have hil : i < len := by have := (List.getElem?_eq_some_iff.1 hi).1; omega
        refine (hp i y hi).2.2 fun n hn => hw n ?_
        simp only [DataW.weights, hu, List.mem_cons, List.mem_append]
        exact Or.inr (Or.inl (weights_all_mem (j := i) (by simp only [List.getElem?_map, List.getElem?_range hil, Option.map_some]) n hn))⟩

/-- The fields fs, from cell off on, one behind the other. -/
def OpensF {α : Type} (K : Kd α) (fs : List Field) (off : Nat) : Prop :=
  ∀ {H : Type} {enc : TypeId × Value → H} {w : World} {base fuel : Nat} {spare : Nat → Bool} {held : Bool} {cs : List Value} {xs : List (DataW H × List MemPlace)},
    (∀ (i : Nat) (f : Field), fs[i]? = some f → DataW.trod enc Try.prog w base spare held fuel f.type ((cs.drop f.offset).take (Try.prog.cellsOf f.type)) = xs[i]?) → xs.length = fs.length → cs.length = off + K.size →
    ∃ a, K.R w w.heap.size a (cs.drop off) ∧ K.bulk a ≤ Rows.uptoBulkAll (xs.map (·.1)) ∧ ((∀ n ∈ DataW.weightsEach Try.prog (fs.map (·.type)) (xs.map (·.1)), n ≤ reachBytes) → K.fits a)
theorem opensF_one {α : Type} {K : Kd α} {f : Field} {off : Nat} (h : Opens K f.type) (ho : f.offset = off) : OpensF K [f] off := by
  intro H enc w base fuel spare held cs xs hx hl hc
  match xs, hl with
  | [x], _ =>
    have h0 := hx 0 f rfl
    rw [h.size, ho, List.take_of_length_le (by rw [List.length_drop]; omega)] at h0
    obtain ⟨a, r1, r2, r3⟩ := h.go h0
    exact ⟨a, r1, by simpa [Rows.uptoBulkAll] using r2, fun hw => r3 fun n hn => hw n (by simp [DataW.weightsEach]; exact hn)⟩
theorem opensF_cons {α β : Type} {K : Kd α} {L : Kd β} {f : Field} {fs : List Field} {off : Nat} (h : Opens K f.type) (ho : f.offset = off) (hr : OpensF L fs (off + K.size)) : OpensF (kPair K L) (f :: fs) off := by
  intro H enc w base fuel spare held cs xs hx hl hc
  match xs, hl with
  | x :: xs, hl =>
    have h0 := hx 0 f rfl
    rw [h.size, ho] at h0
    obtain ⟨a, r1, r2, r3⟩ := h.go h0
    obtain ⟨b, s1, s2, s3⟩ := hr (cs := cs) (xs := xs) (fun i g hg => by simpa using hx (i + 1) g (by simpa using hg)) (by simpa using hl) (by rw [hc]; simp [kPair]; omega)
    refine ⟨(a, b), ⟨_, _, ?_, r1, s1⟩, ?_, fun hw => ⟨r3 fun n hn => hw n ?_, s3 fun n hn => hw n ?_⟩⟩
    · rw [← List.drop_drop, List.take_append_drop]
    · simp only [kPair, List.map_cons, Rows.uptoBulkAll]; omega
    · simp only [List.map_cons, DataW.weightsEach, List.mem_append]; exact Or.inl hn
    · simp only [List.map_cons, DataW.weightsEach, List.mem_append]; exact Or.inr hn
theorem opens_struct {α : Type} {K : Kd α} {T : TypeId} {fs : Array Field} (hs : Try.prog.cellsOf T = K.size) (hu : Try.prog.underlying T = some (.struct fs)) (hf : OpensF K fs.toList 0) : Opens K T :=
  ⟨hs, fun {H enc w base fuel spare held cs x} h => by
    obtain ⟨xs, n, rfl, rfl, hl, hlen, hx⟩ := DataW.trod_struct hu h
    obtain ⟨a, r1, r2, r3⟩ := hf (cs := cs) (xs := xs) (fun i f hi => hx i f (by simpa using hi)) (by simpa using hlen) (by rw [hl, hs]; omega)
    rw [List.drop_zero] at r1
    refine ⟨a, r1, ?_, fun hw => r3 fun n hn => hw n ?_⟩
    · simp only [Rows.uptoBulk]; omega
    · simp only [DataW.weights, hu]; exact hn⟩
theorem opens_as {α β : Type} {K : Kd α} {T : TypeId} (h : Opens K T) (f : β → α) (g : α → β) (hfg : ∀ a, f (g a) = a) : Opens (kAs K f) T :=
  ⟨h.size, fun ht => by
    obtain ⟨a, r1, r2, r3⟩ := h.go ht
    refine ⟨g a, ?_, ?_, ?_⟩ <;> simp only [kAs, hfg] <;> assumption⟩

/-- An argument, opened. -/
theorem Opens.arg {α : Type} {K : Kd α} {T : TypeId} (h : Opens K T) {H : Type} {enc : TypeId × Value → H} {w : World} {base : Nat} {spare : Nat → Bool} {held : Bool} {v : Value} {d : DataW H} {ps : List MemPlace}
    (ht : DataW.Trod enc Try.prog w base spare held T v d ps) : ∃ a, K.R w w.heap.size a v.cells.toList ∧ K.bulk a ≤ Rows.uptoBulk d ∧ ((∀ n ∈ d.weights Try.prog T, n ≤ reachBytes) → K.fits a) := by
  obtain ⟨fuel, hf⟩ := ht
  exact h.go hf
end Go.Proofs.Ytnnladfndmdapaa
