/- Contracts and plain laws that this claim leans on, laid together: TwoR, Wal4R, Solid, Wal4D, Wal3, Ent9, PlainD, Ent10, Ent2, Ent3a, Ent3b, Ent3c, Ent3d, Ent3, Ent11, Ent7. -/
import Derived.Test.YtmnpchncmbnddaaGreatG08
import Derived.Test.YtmnpchncmbnddaaGreatG06
import Derived.Deep.Cut
set_option linter.all false
set_option linter.unusedVariables false
set_option linter.unusedSimpArgs false
set_option linter.unnecessarySimpa false
/- A region of two calls that answer entries, each stored in a box of its own: in whatever order. -/
namespace Go.Proofs.YtmnpchncmbnddaaGreat
open Go.RowKit

def zeroE : Array Value := #[.int .i64 0, .int .i64 0, .int .i64 0, .string ⟨#[]⟩, .slice none 0 0, .bool false]
/-- A call's answer: nothing yet, or the entry, its bytes a row. -/
def Ans (b : Bool) (x : En) (u : Value) (i : Item) : Prop := if b then ∃ A c, u = .agg (x.cells A c) ∧ i = Item.row (.slice A x.value.length c) x.value else i = Item.none
/-- A box: none yet, an empty one, the answer's. -/
def Box (b s : Bool) (x : En) (u ud : Value) (i : Item) : Prop :=
  if s then ∃ A c g, u = .agg (x.cells A c) ∧ ud = .pointer (some ⟨g, 0, none⟩) ∧ i = Item.blk g 105 (x.cells A c)
  else if b then ∃ g, ud = .pointer (some ⟨g, 0, none⟩) ∧ i = Item.blk g 105 zeroE else i = Item.none
structure TwoInv (a0 : Act) (w0 : World) (M : List Item) (V : Value) (x y : En) (s1 s2 s3 s4 d1 d2 : Nat) (L : Nat → Bool) (a : Act) (w : World) : Prop where
  fr : Fr [s1, s2, s3, s4, d1, d2] a0 a
  v1 : L 0 = true → a.tmps.getD s1 undef = V
  v3 : L 2 = true → a.tmps.getD s3 undef = V
  dn : (L 6 = true → L 1 = true ∧ L 4 = true) ∧ (L 7 = true → L 3 = true ∧ L 5 = true)
  it : ∃ i1 i2 j1 j2, Turn (Item.all []) w0 (Item.all (j1 :: j2 :: i1 :: i2 :: M)) w ∧ Ans (L 1) x (a.tmps.getD s2 undef) i1 ∧ Ans (L 3) y (a.tmps.getD s4 undef) i2 ∧
    Box (L 4) (L 6) x (a.tmps.getD s2 undef) (a.tmps.getD d1 undef) j1 ∧ Box (L 5) (L 7) y (a.tmps.getD s4 undef) (a.tmps.getD d2 undef) j2
theorem slot_ne {a : Act} {d k : Nat} {v : Value} (h : d < a.tmps.size) (hk : k ≠ d) : (a.put (some d) v).tmps.getD k undef = a.tmps.getD k undef := by rw [slot_get h, if_neg hk]
theorem slot_eq {a : Act} {d : Nat} {v : Value} (h : d < a.tmps.size) : (a.put (some d) v).tmps.getD d undef = v := by rw [slot_get h, if_pos rfl]
end Go.Proofs.YtmnpchncmbnddaaGreat
/- Log.Entries: the region of a round that adds an entry and its end: in whatever order. -/
namespace Go.Proofs.YtmnpchncmbnddaaGreat
open Go.RowKit

def entsOps (ps : String) : Array Oper :=
  #[{ dst := some 50, op := .load 63 (.tmp 9), type := 63, pos := ps, after := #[], guard := none },
    { dst := some 51, op := .load 105 (.tmp 13), type := 105, pos := ps, after := #[], guard := none },
    { dst := some 52, op := .buildSlice 63 1 #[(0, .tmp 51)], type := 63, pos := ps, after := #[{ on := 1, ground := .data }], guard := none },
    { dst := some 53, op := .call { callee := .builtin .append, args := #[.tmp 50, .tmp 52], argTypes := #[63, 63] }, type := 63, pos := ps, after := #[{ on := 0, ground := .data }, { on := 2, ground := .data }], guard := none },
    { dst := some 54, op := .load 68 (.tmp 10), type := 68, pos := ps, after := #[], guard := none },
    { dst := some 55, op := .load 3 (.tmp 4), type := 3, pos := ps, after := #[], guard := none },
    { dst := some 56, op := .move (.tmp 11), type := 3, pos := ps, after := #[], guard := none },
    { dst := some 57, op := .binOp .add 3 (.tmp 55) (.tmp 56) 3, type := 3, pos := ps, after := #[{ on := 5, ground := .data }, { on := 6, ground := .data }], guard := none },
    { dst := some 58, op := .buildSlice 68 1 #[(0, .tmp 57)], type := 68, pos := ps, after := #[{ on := 7, ground := .data }], guard := none },
    { dst := some 59, op := .call { callee := .builtin .append, args := #[.tmp 54, .tmp 58], argTypes := #[68, 68] }, type := 68, pos := ps, after := #[{ on := 4, ground := .data }, { on := 8, ground := .data }, { on := 3, ground := .chain }], guard := none },
    { dst := none, op := .store 63 (.tmp 9) (.tmp 53), type := 0, pos := ps,
      after := #[{ on := 3, ground := .data }, { on := 9, ground := .chain }, { on := 0, ground := .phase }, { on := 1, ground := .phase }, { on := 2, ground := .phase }, { on := 3, ground := .phase }, { on := 4, ground := .textOnly .inlinedCapture }, { on := 5, ground := .textOnly .lateStores }, { on := 6, ground := .textOnly .lateStores }, { on := 7, ground := .textOnly .lateStores }, { on := 8, ground := .textOnly .inlinedCapture }, { on := 9, ground := .textOnly .lateStoresUnsure }], guard := none },
    { dst := none, op := .store 68 (.tmp 10) (.tmp 59), type := 0, pos := ps,
      after := #[{ on := 9, ground := .data }, { on := 10, ground := .chain }, { on := 0, ground := .phase }, { on := 1, ground := .phase }, { on := 2, ground := .phase }, { on := 3, ground := .phase }, { on := 4, ground := .phase }, { on := 5, ground := .phase }, { on := 6, ground := .phase }, { on := 7, ground := .phase }, { on := 8, ground := .phase }, { on := 9, ground := .phase }, { on := 10, ground := .phase }], guard := none }]
def entsSlots : List Nat := [50, 51, 52, 53, 54, 55, 56, 57, 58, 59]
theorem fresh_src {w : World} {g size : Nat} {e T : TypeId} {cs : Array Value} (h : Blk w g e cs) (ht : Tryz.prog.underlying T = some (.slice e)) (h1 : cs.toList.all (fun u => u.oneCell') = true) (h2 : 0 < size) (hs : cs.size = size) : Src Tryz.prog size T (.slice (some ⟨g, 0, none⟩) 1 1) 1 cs.toList w :=
  Reads.src (B := w.heap.size) (A := some ⟨g, 0, none⟩) ⟨by rw [Array.length_toList]; omega, fun _ => ⟨g, 0, rfl, h.lt, fun j u hu => by
    rw [Nat.zero_add]
    have := h.cell j
    rw [this, ← hu, Array.getElem?_toList]⟩⟩ ht 1 (fun u hu => List.all_eq_true.1 h1 u hu)
theorem upd_of {L : Nat → Bool} {i j : Nat} (h : L j = true) : upd L i j = true := by unfold upd; split <;> simp [h]
/-- A fresh slice of one element, or none yet. -/
def Fresh (b : Bool) (e : TypeId) (cs : Array Value) (u : Value) (i : Item) : Prop := if b then ∃ g, u = .slice (some ⟨g, 0, none⟩) 1 1 ∧ i = Item.blk g e cs else i = Item.none
/-- A row before and behind its append; its box before and behind its store. -/
structure RowSt (ap st : Bool) (g : Nat) (T e : TypeId) (size : Nat) (v u : Value) (n : Nat) (xs cs : List Value) (bx rw : Item) : Prop where
  r : if ap then rw = Item.rowT e size u (n + 1) (xs ++ cs) else rw = Item.rowT e size v n xs
  b : if st then bx = Item.blk g T #[u] else bx = Item.blk g T #[v]
structure EInv (a0 : Act) (x0 : Item) (w0 : World) (M : List Item) (g9 g10 : Nat) (v9 v10 : Value) (n : Nat) (xs9 xs10 : List Value) (cs : Array Value) (base at_ : Int) (L : Nat → Bool) (a : Act) (w : World) : Prop where
  fr : Fr entsSlots a0 a
  u50 : L 0 = true → a.tmps.getD 50 undef = v9
  u51 : L 1 = true → a.tmps.getD 51 undef = .agg cs
  u54 : L 4 = true → a.tmps.getD 54 undef = v10
  u55 : L 5 = true → a.tmps.getD 55 undef = .int .i64 base
  u56 : L 6 = true → a.tmps.getD 56 undef = .int .i64 at_
  u57 : L 7 = true → a.tmps.getD 57 undef = .int .i64 (base + at_)
  dn3 : L 3 = true → L 0 = true ∧ L 2 = true
  dn9 : L 9 = true → L 4 = true ∧ L 8 = true
  dn10 : L 10 = true → L 3 = true
  dn11 : L 11 = true → L 9 = true
  it : ∃ b9 b10 r9 r10 f1 f2, Turn x0 w0 (Item.all (b9 :: b10 :: r9 :: r10 :: f1 :: f2 :: M)) w ∧ Fresh (L 2) 105 cs (a.tmps.getD 52 undef) f1 ∧ Fresh (L 8) 3 #[.int .i64 (base + at_)] (a.tmps.getD 58 undef) f2 ∧
    RowSt (L 3) (L 10) g9 63 105 cs.size v9 (a.tmps.getD 53 undef) n xs9 cs.toList b9 r9 ∧ RowSt (L 9) (L 11) g10 68 3 1 v10 (a.tmps.getD 59 undef) n xs10 [.int .i64 (base + at_)] b10 r10
set_option maxRecDepth 100000 in
theorem ents_step {F : Fence} {N : Nat} {ps : String} {a0 : Act} {x0 : Item} {w0 : World} {M : List Item} {g9 g10 g4 g13 n : Nat} {v9 v10 : Value} {xs9 xs10 : List Value} {k s m : Int} {key : ByteArray} {A : Option Addr} {p : List UInt8} {c : Nat} {d : Bool} {base at_ : Int} {Q : Exit → Act → World → Prop}
    (hsz : a0.tmps.size = 62) (h9 : a0.tmps.getD 9 undef = .pointer (some ⟨g9, 0, none⟩)) (h10 : a0.tmps.getD 10 undef = .pointer (some ⟨g10, 0, none⟩)) (h4 : a0.tmps.getD 4 undef = .pointer (some ⟨g4, 0, none⟩)) (h13 : a0.tmps.getD 13 undef = .pointer (some ⟨g13, 0, none⟩))
    (h11 : a0.tmps.getD 11 undef = .int .i64 at_) (hM4 : Item.blk g4 3 #[.int .i64 base] ∈ M) (hM13 : Item.blk g13 105 #[.int .i64 k, .int .i64 s, .int .i64 m, .string key, .slice A p.length c, .bool d] ∈ M)
    (hb : -9223372036854775808 ≤ base + at_ ∧ base + at_ ≤ 9223372036854775807) (hn : (n + 1) * 72 ≤ 140737488355328) :
    ∀ (L : Nat → Bool) (a : Act) (w : World) (i : Nat) (o : Oper), (entsOps ps)[i]? = some o → L i = false → (∀ e ∈ o.after, Region.binds .any e = true → L e.on = true) →
      EInv a0 x0 w0 M g9 g10 v9 v10 n xs9 xs10 #[.int .i64 k, .int .i64 s, .int .i64 m, .string key, .slice A p.length c, .bool d] base at_ L a w →
      wpOpIn F N Tryz.prog (entsOps ps) Q i (EInv a0 x0 w0 M g9 g10 v9 v10 n xs9 xs10 #[.int .i64 k, .int .i64 s, .int .i64 m, .string key, .slice A p.length c, .bool d] base at_ (upd L i)) a w := by
  intro L a w i o ho hL ha hI
  have hi : i < 12 := (Array.getElem?_eq_some_iff.1 ho).1
  obtain ⟨b9, b10, r9, r10, f1, f2, hT, hF1, hF2, hR9, hR10⟩ := hI.it
  have e9 : a.tmps.getD 9 undef = .pointer (some ⟨g9, 0, none⟩) := by rw [hI.fr.g 9 (by decide)]; exact h9
  have e10 : a.tmps.getD 10 undef = .pointer (some ⟨g10, 0, none⟩) := by rw [hI.fr.g 10 (by decide)]; exact h10
  have e4 : a.tmps.getD 4 undef = .pointer (some ⟨g4, 0, none⟩) := by rw [hI.fr.g 4 (by decide)]; exact h4
  have e13 : a.tmps.getD 13 undef = .pointer (some ⟨g13, 0, none⟩) := by rw [hI.fr.g 13 (by decide)]; exact h13
  have e11 : a.tmps.getD 11 undef = .int .i64 at_ := by rw [hI.fr.g 11 (by decide)]; exact h11
  have hz : ∀ q, q < 62 → q < a.tmps.size := fun q hq => by rw [hI.fr.n, hsz]; exact hq
  unfold wpOpIn
  rw [ho]
  simp only
  rcases i with _ | _ | _ | _ | _ | _ | _ | _ | _ | _ | _ | _ | i
  · simp [entsOps] at ho
    subst ho
    rw [if_pos (by rfl)]
    have hLb : L 10 = false := by
      cases hq : L 10 with
      | false => rfl
      | true => have := (hI.dn3 (hI.dn10 hq)).1; rw [hL] at this; cases this
    have hB := hR9.b
    rw [hLb, if_neg (by simp)] at hB
    subst hB
    have y0 := (show Blk w g9 63 #[v9] from hT.get (i := 0) rfl).cell 0
    simp at y0
    refine ⟨by simp [Oper.about], ?_⟩
    rw [Oper.semAt_eq _ _ _ (by intro c hc; cases hc)]
    simp [go_sem, e9, y0]
    show EInv a0 x0 w0 M g9 g10 v9 v10 n xs9 xs10 _ base at_ (upd L 0) (a.put (some 50) v9) w
    exact { fr := hI.fr.put (by decide) _,
            u50 := fun _ => slot_eq (hz 50 (by decide)),
            u51 := fun h => by rw [slot_ne (hz 50 (by decide)) (by decide)]; exact hI.u51 h,
            u54 := fun h => by rw [slot_ne (hz 50 (by decide)) (by decide)]; exact hI.u54 h,
            u55 := fun h => by rw [slot_ne (hz 50 (by decide)) (by decide)]; exact hI.u55 h,
            u56 := fun h => by rw [slot_ne (hz 50 (by decide)) (by decide)]; exact hI.u56 h,
            u57 := fun h => by rw [slot_ne (hz 50 (by decide)) (by decide)]; exact hI.u57 h,
            dn3 := fun h => ⟨upd_of (hI.dn3 h).1, upd_of (hI.dn3 h).2⟩,
            dn9 := fun h => ⟨upd_of (hI.dn9 h).1, upd_of (hI.dn9 h).2⟩,
            dn10 := fun h => upd_of (hI.dn10 h),
            dn11 := fun h => upd_of (hI.dn11 h),
            it := ⟨_, _, _, _, _, _, hT, by rw [slot_ne (hz 50 (by decide)) (by decide)]; exact hF1, by rw [slot_ne (hz 50 (by decide)) (by decide)]; exact hF2, by rw [slot_ne (hz 50 (by decide)) (by decide)]; exact hR9, by rw [slot_ne (hz 50 (by decide)) (by decide)]; exact hR10⟩ }
  · simp [entsOps] at ho
    subst ho
    rw [if_pos (by rfl)]
    have K := (show Blk w g13 105 #[.int .i64 k, .int .i64 s, .int .i64 m, .string key, .slice A p.length c, .bool d] from Item.all_get hT.p (x := Item.blk g13 105 #[.int .i64 k, .int .i64 s, .int .i64 m, .string key, .slice A p.length c, .bool d]) (by simp [hM13]))
    have y0 := K.cell 0
    have y1 := K.cell 1
    have y2 := K.cell 2
    have y3 := K.cell 3
    have y4 := K.cell 4
    have y5 := K.cell 5
    simp at y0 y1 y2 y3 y4 y5
    refine ⟨by simp [Oper.about], ?_⟩
    rw [Oper.semAt_eq _ _ _ (by intro c hc; cases hc)]
    simp [go_sem, e13, y0, y1, y2, y3, y4, y5]
    show EInv a0 x0 w0 M g9 g10 v9 v10 n xs9 xs10 _ base at_ (upd L 1) (a.put (some 51) (.agg #[.int .i64 k, .int .i64 s, .int .i64 m, .string key, .slice A p.length c, .bool d])) w
    exact { fr := hI.fr.put (by decide) _,
            u50 := fun h => by rw [slot_ne (hz 51 (by decide)) (by decide)]; exact hI.u50 h,
            u51 := fun _ => slot_eq (hz 51 (by decide)),
            u54 := fun h => by rw [slot_ne (hz 51 (by decide)) (by decide)]; exact hI.u54 h,
            u55 := fun h => by rw [slot_ne (hz 51 (by decide)) (by decide)]; exact hI.u55 h,
            u56 := fun h => by rw [slot_ne (hz 51 (by decide)) (by decide)]; exact hI.u56 h,
            u57 := fun h => by rw [slot_ne (hz 51 (by decide)) (by decide)]; exact hI.u57 h,
            dn3 := fun h => ⟨upd_of (hI.dn3 h).1, upd_of (hI.dn3 h).2⟩,
            dn9 := fun h => ⟨upd_of (hI.dn9 h).1, upd_of (hI.dn9 h).2⟩,
            dn10 := fun h => upd_of (hI.dn10 h),
            dn11 := fun h => upd_of (hI.dn11 h),
            it := ⟨_, _, _, _, _, _, hT, by rw [slot_ne (hz 51 (by decide)) (by decide)]; exact hF1, by rw [slot_ne (hz 51 (by decide)) (by decide)]; exact hF2, by rw [slot_ne (hz 51 (by decide)) (by decide)]; exact hR9, by rw [slot_ne (hz 51 (by decide)) (by decide)]; exact hR10⟩ }
  · simp [entsOps] at ho
    subst ho
    rw [if_pos (by rfl)]
    have hv51 : a.tmps.getD 51 undef = .agg #[.int .i64 k, .int .i64 s, .int .i64 m, .string key, .slice A p.length c, .bool d] := hI.u51 (ha ⟨1, .data⟩ (by simp) rfl)
    have hv51' : a.tmps[51]?.getD undef = .agg #[.int .i64 k, .int .i64 s, .int .i64 m, .string key, .slice A p.length c, .bool d] := by rw [← Array.getD_eq_getD_getElem?]; exact hv51
    unfold Fresh at hF1
    rw [hL, if_neg (by simp)] at hF1
    subst hF1
    have hT2 := hT.step (i := 4) rfl (Turn.ofNone (y := Item.blk w.heap.size 105 #[.int .i64 k, .int .i64 s, .int .i64 m, .string key, .slice A p.length c, .bool d]) ((Below.refl _ _).alloc (Nat.le_refl _) (.cells #[.int .i64 k, .int .i64 s, .int .i64 m, .string key, .slice A p.length c, .bool d] 105)) (Blk.new w 105 #[.int .i64 k, .int .i64 s, .int .i64 m, .string key, .slice A p.length c, .bool d]) (fun k hk => by cases hk; exact Nat.le_refl _))
    refine ⟨by simp [Oper.about], ?_⟩
    rw [Oper.semAt_eq _ _ _ (by intro c hc; cases hc)]
    simp [go_sem, hv51']
    show EInv a0 x0 w0 M g9 g10 v9 v10 n xs9 xs10 _ base at_ (upd L 2) (a.put (some 52) (.slice (some ⟨w.heap.size, 0, none⟩) 1 1)) (w.alloc (.cells #[.int .i64 k, .int .i64 s, .int .i64 m, .string key, .slice A p.length c, .bool d] 105))
    exact { fr := hI.fr.put (by decide) _,
            u50 := fun h => by rw [slot_ne (hz 52 (by decide)) (by decide)]; exact hI.u50 h,
            u51 := fun h => by rw [slot_ne (hz 52 (by decide)) (by decide)]; exact hI.u51 h,
            u54 := fun h => by rw [slot_ne (hz 52 (by decide)) (by decide)]; exact hI.u54 h,
            u55 := fun h => by rw [slot_ne (hz 52 (by decide)) (by decide)]; exact hI.u55 h,
            u56 := fun h => by rw [slot_ne (hz 52 (by decide)) (by decide)]; exact hI.u56 h,
            u57 := fun h => by rw [slot_ne (hz 52 (by decide)) (by decide)]; exact hI.u57 h,
            dn3 := fun h => ⟨upd_of (hI.dn3 h).1, upd_of (hI.dn3 h).2⟩,
            dn9 := fun h => ⟨upd_of (hI.dn9 h).1, upd_of (hI.dn9 h).2⟩,
            dn10 := fun h => upd_of (hI.dn10 h),
            dn11 := fun h => upd_of (hI.dn11 h),
            it := ⟨_, _, _, _, _, _, hT2, by unfold Fresh; rw [if_pos (show upd L 2 2 = true from rfl)]; exact ⟨_, slot_eq (hz 52 (by decide)), rfl⟩, by rw [slot_ne (hz 52 (by decide)) (by decide)]; exact hF2, by rw [slot_ne (hz 52 (by decide)) (by decide)]; exact hR9, by rw [slot_ne (hz 52 (by decide)) (by decide)]; exact hR10⟩ }
  · simp [entsOps] at ho
    subst ho
    rw [if_pos (by rfl)]
    have hLb : L 10 = false := by
      cases hq : L 10 with
      | false => rfl
      | true => have := hI.dn10 hq; rw [hL] at this; cases this
    have hLp : L 2 = true := ha ⟨2, .data⟩ (by simp) rfl
    have hLo : L 0 = true := ha ⟨0, .data⟩ (by simp) rfl
    have hv : a.tmps.getD 50 undef = v9 := hI.u50 hLo
    have hF := hF1
    unfold Fresh at hF
    rw [hLp, if_pos rfl] at hF
    obtain ⟨gf, huf, rfl⟩ := hF
    have hr := hR9.r
    rw [hL, if_neg (by simp)] at hr
    subst hr
    have hb0 := hR9.b
    rw [hLb, if_neg (by simp)] at hb0
    subst hb0
    have hown : w.ownsRow 0 105 6 v9 n xs9 := hT.get (i := 2) rfl
    have hK : Blk w gf 105 #[.int .i64 k, .int .i64 s, .int .i64 m, .string key, .slice A p.length c, .bool d] := hT.get (i := 4) rfl
    refine wpIn_append_any rfl 0 (e := 105) (z := (.agg zeroE)) (size := 6) (bytes := 72) (by kernel_rfl) (by kernel_rfl) (by kernel_rfl) (by decide) (by decide) (v := v9) (n := n) (xs := xs9) (by simpa [Act.eval] using hv) hown (x := .slice (some ⟨gf, 0, none⟩) 1 1) (m := 1) (news := (#[.int .i64 k, .int .i64 s, .int .i64 m, .string key, .slice A p.length c, .bool d] : Array Value).toList) (by simpa [Act.eval] using huf) (fresh_src hK (by kernel_rfl) rfl (by decide) rfl) (by omega) (Nat.zero_le _) ?_
    intro v' w' ho hg hf
    have hT2 := hT.step (i := 2) rfl (Turn.rowT (v := v9) (n := n) (xs := xs9) ho hg hf)
    exact { fr := hI.fr.put (by decide) _,
            u50 := fun h => by rw [slot_ne (hz 53 (by decide)) (by decide)]; exact hI.u50 h,
            u51 := fun h => by rw [slot_ne (hz 53 (by decide)) (by decide)]; exact hI.u51 h,
            u54 := fun h => by rw [slot_ne (hz 53 (by decide)) (by decide)]; exact hI.u54 h,
            u55 := fun h => by rw [slot_ne (hz 53 (by decide)) (by decide)]; exact hI.u55 h,
            u56 := fun h => by rw [slot_ne (hz 53 (by decide)) (by decide)]; exact hI.u56 h,
            u57 := fun h => by rw [slot_ne (hz 53 (by decide)) (by decide)]; exact hI.u57 h,
            dn3 := fun _ => ⟨upd_of hLo, upd_of hLp⟩,
            dn9 := fun h => ⟨upd_of (hI.dn9 h).1, upd_of (hI.dn9 h).2⟩,
            dn10 := fun h => upd_of (hI.dn10 h),
            dn11 := fun h => upd_of (hI.dn11 h),
            it := ⟨_, _, _, _, _, _, hT2, by rw [slot_ne (hz 53 (by decide)) (by decide)]; exact hF1, by rw [slot_ne (hz 53 (by decide)) (by decide)]; exact hF2, ⟨by rw [if_pos (show upd L 3 3 = true from rfl), slot_eq (hz 53 (by decide))], by rw [if_neg (show ¬ upd L 3 10 = true from by rw [show upd L 3 10 = L 10 from rfl, hLb]; simp)]⟩, by rw [slot_ne (hz 53 (by decide)) (by decide)]; exact hR10⟩ }
  · simp [entsOps] at ho
    subst ho
    rw [if_pos (by rfl)]
    have hLb : L 11 = false := by
      cases hq : L 11 with
      | false => rfl
      | true => have := (hI.dn9 (hI.dn11 hq)).1; rw [hL] at this; cases this
    have hB := hR10.b
    rw [hLb, if_neg (by simp)] at hB
    subst hB
    have y0 := (show Blk w g10 68 #[v10] from hT.get (i := 1) rfl).cell 0
    simp at y0
    refine ⟨by simp [Oper.about], ?_⟩
    rw [Oper.semAt_eq _ _ _ (by intro c hc; cases hc)]
    simp [go_sem, e10, y0]
    show EInv a0 x0 w0 M g9 g10 v9 v10 n xs9 xs10 _ base at_ (upd L 4) (a.put (some 54) v10) w
    exact { fr := hI.fr.put (by decide) _,
            u50 := fun h => by rw [slot_ne (hz 54 (by decide)) (by decide)]; exact hI.u50 h,
            u51 := fun h => by rw [slot_ne (hz 54 (by decide)) (by decide)]; exact hI.u51 h,
            u54 := fun _ => slot_eq (hz 54 (by decide)),
            u55 := fun h => by rw [slot_ne (hz 54 (by decide)) (by decide)]; exact hI.u55 h,
            u56 := fun h => by rw [slot_ne (hz 54 (by decide)) (by decide)]; exact hI.u56 h,
            u57 := fun h => by rw [slot_ne (hz 54 (by decide)) (by decide)]; exact hI.u57 h,
            dn3 := fun h => ⟨upd_of (hI.dn3 h).1, upd_of (hI.dn3 h).2⟩,
            dn9 := fun h => ⟨upd_of (hI.dn9 h).1, upd_of (hI.dn9 h).2⟩,
            dn10 := fun h => upd_of (hI.dn10 h),
            dn11 := fun h => upd_of (hI.dn11 h),
            it := ⟨_, _, _, _, _, _, hT, by rw [slot_ne (hz 54 (by decide)) (by decide)]; exact hF1, by rw [slot_ne (hz 54 (by decide)) (by decide)]; exact hF2, by rw [slot_ne (hz 54 (by decide)) (by decide)]; exact hR9, by rw [slot_ne (hz 54 (by decide)) (by decide)]; exact hR10⟩ }
  · simp [entsOps] at ho
    subst ho
    rw [if_pos (by rfl)]
    have y0 := (show Blk w g4 3 #[.int .i64 base] from Item.all_get hT.p (x := Item.blk g4 3 #[.int .i64 base]) (by simp [hM4])).cell 0
    simp at y0
    refine ⟨by simp [Oper.about], ?_⟩
    rw [Oper.semAt_eq _ _ _ (by intro c hc; cases hc)]
    simp [go_sem, e4, y0]
    show EInv a0 x0 w0 M g9 g10 v9 v10 n xs9 xs10 _ base at_ (upd L 5) (a.put (some 55) (.int .i64 base)) w
    exact { fr := hI.fr.put (by decide) _,
            u50 := fun h => by rw [slot_ne (hz 55 (by decide)) (by decide)]; exact hI.u50 h,
            u51 := fun h => by rw [slot_ne (hz 55 (by decide)) (by decide)]; exact hI.u51 h,
            u54 := fun h => by rw [slot_ne (hz 55 (by decide)) (by decide)]; exact hI.u54 h,
            u55 := fun _ => slot_eq (hz 55 (by decide)),
            u56 := fun h => by rw [slot_ne (hz 55 (by decide)) (by decide)]; exact hI.u56 h,
            u57 := fun h => by rw [slot_ne (hz 55 (by decide)) (by decide)]; exact hI.u57 h,
            dn3 := fun h => ⟨upd_of (hI.dn3 h).1, upd_of (hI.dn3 h).2⟩,
            dn9 := fun h => ⟨upd_of (hI.dn9 h).1, upd_of (hI.dn9 h).2⟩,
            dn10 := fun h => upd_of (hI.dn10 h),
            dn11 := fun h => upd_of (hI.dn11 h),
            it := ⟨_, _, _, _, _, _, hT, by rw [slot_ne (hz 55 (by decide)) (by decide)]; exact hF1, by rw [slot_ne (hz 55 (by decide)) (by decide)]; exact hF2, by rw [slot_ne (hz 55 (by decide)) (by decide)]; exact hR9, by rw [slot_ne (hz 55 (by decide)) (by decide)]; exact hR10⟩ }
  · simp [entsOps] at ho
    subst ho
    rw [if_pos (by rfl)]
    refine ⟨by simp [Oper.about], ?_⟩
    rw [Oper.semAt_eq _ _ _ (by intro c hc; cases hc)]
    simp [go_sem, e11]
    show EInv a0 x0 w0 M g9 g10 v9 v10 n xs9 xs10 _ base at_ (upd L 6) (a.put (some 56) (.int .i64 at_)) w
    exact { fr := hI.fr.put (by decide) _,
            u50 := fun h => by rw [slot_ne (hz 56 (by decide)) (by decide)]; exact hI.u50 h,
            u51 := fun h => by rw [slot_ne (hz 56 (by decide)) (by decide)]; exact hI.u51 h,
            u54 := fun h => by rw [slot_ne (hz 56 (by decide)) (by decide)]; exact hI.u54 h,
            u55 := fun h => by rw [slot_ne (hz 56 (by decide)) (by decide)]; exact hI.u55 h,
            u56 := fun _ => slot_eq (hz 56 (by decide)),
            u57 := fun h => by rw [slot_ne (hz 56 (by decide)) (by decide)]; exact hI.u57 h,
            dn3 := fun h => ⟨upd_of (hI.dn3 h).1, upd_of (hI.dn3 h).2⟩,
            dn9 := fun h => ⟨upd_of (hI.dn9 h).1, upd_of (hI.dn9 h).2⟩,
            dn10 := fun h => upd_of (hI.dn10 h),
            dn11 := fun h => upd_of (hI.dn11 h),
            it := ⟨_, _, _, _, _, _, hT, by rw [slot_ne (hz 56 (by decide)) (by decide)]; exact hF1, by rw [slot_ne (hz 56 (by decide)) (by decide)]; exact hF2, by rw [slot_ne (hz 56 (by decide)) (by decide)]; exact hR9, by rw [slot_ne (hz 56 (by decide)) (by decide)]; exact hR10⟩ }
  · simp [entsOps] at ho
    subst ho
    rw [if_pos (by rfl)]
    have hv55 : a.tmps.getD 55 undef = .int .i64 base := hI.u55 (ha ⟨5, .data⟩ (by simp) rfl)
    have hv55' : a.tmps[55]?.getD undef = .int .i64 base := by rw [← Array.getD_eq_getD_getElem?]; exact hv55
    have hv56 : a.tmps.getD 56 undef = .int .i64 at_ := hI.u56 (ha ⟨6, .data⟩ (by simp) rfl)
    have hv56' : a.tmps[56]?.getD undef = .int .i64 at_ := by rw [← Array.getD_eq_getD_getElem?]; exact hv56
    have hw : IntKind.i64.wrap (base + at_) = base + at_ := by rw [IntKind.wrap_i64]; omega
    refine ⟨by simp [Oper.about], ?_⟩
    rw [Oper.semAt_eq _ _ _ (by intro c hc; cases hc)]
    simp [go_sem, hv55', hv56', hw]
    show EInv a0 x0 w0 M g9 g10 v9 v10 n xs9 xs10 _ base at_ (upd L 7) (a.put (some 57) (.int .i64 (base + at_))) w
    exact { fr := hI.fr.put (by decide) _,
            u50 := fun h => by rw [slot_ne (hz 57 (by decide)) (by decide)]; exact hI.u50 h,
            u51 := fun h => by rw [slot_ne (hz 57 (by decide)) (by decide)]; exact hI.u51 h,
            u54 := fun h => by rw [slot_ne (hz 57 (by decide)) (by decide)]; exact hI.u54 h,
            u55 := fun h => by rw [slot_ne (hz 57 (by decide)) (by decide)]; exact hI.u55 h,
            u56 := fun h => by rw [slot_ne (hz 57 (by decide)) (by decide)]; exact hI.u56 h,
            u57 := fun _ => slot_eq (hz 57 (by decide)),
            dn3 := fun h => ⟨upd_of (hI.dn3 h).1, upd_of (hI.dn3 h).2⟩,
            dn9 := fun h => ⟨upd_of (hI.dn9 h).1, upd_of (hI.dn9 h).2⟩,
            dn10 := fun h => upd_of (hI.dn10 h),
            dn11 := fun h => upd_of (hI.dn11 h),
            it := ⟨_, _, _, _, _, _, hT, by rw [slot_ne (hz 57 (by decide)) (by decide)]; exact hF1, by rw [slot_ne (hz 57 (by decide)) (by decide)]; exact hF2, by rw [slot_ne (hz 57 (by decide)) (by decide)]; exact hR9, by rw [slot_ne (hz 57 (by decide)) (by decide)]; exact hR10⟩ }
  · simp [entsOps] at ho
    subst ho
    rw [if_pos (by rfl)]
    have hv57 : a.tmps.getD 57 undef = .int .i64 (base + at_) := hI.u57 (ha ⟨7, .data⟩ (by simp) rfl)
    have hv57' : a.tmps[57]?.getD undef = .int .i64 (base + at_) := by rw [← Array.getD_eq_getD_getElem?]; exact hv57
    unfold Fresh at hF2
    rw [hL, if_neg (by simp)] at hF2
    subst hF2
    have hT2 := hT.step (i := 5) rfl (Turn.ofNone (y := Item.blk w.heap.size 3 #[.int .i64 (base + at_)]) ((Below.refl _ _).alloc (Nat.le_refl _) (.cells #[.int .i64 (base + at_)] 3)) (Blk.new w 3 #[.int .i64 (base + at_)]) (fun k hk => by cases hk; exact Nat.le_refl _))
    refine ⟨by simp [Oper.about], ?_⟩
    rw [Oper.semAt_eq _ _ _ (by intro c hc; cases hc)]
    simp [go_sem, hv57']
    show EInv a0 x0 w0 M g9 g10 v9 v10 n xs9 xs10 _ base at_ (upd L 8) (a.put (some 58) (.slice (some ⟨w.heap.size, 0, none⟩) 1 1)) (w.alloc (.cells #[.int .i64 (base + at_)] 3))
    exact { fr := hI.fr.put (by decide) _,
            u50 := fun h => by rw [slot_ne (hz 58 (by decide)) (by decide)]; exact hI.u50 h,
            u51 := fun h => by rw [slot_ne (hz 58 (by decide)) (by decide)]; exact hI.u51 h,
            u54 := fun h => by rw [slot_ne (hz 58 (by decide)) (by decide)]; exact hI.u54 h,
            u55 := fun h => by rw [slot_ne (hz 58 (by decide)) (by decide)]; exact hI.u55 h,
            u56 := fun h => by rw [slot_ne (hz 58 (by decide)) (by decide)]; exact hI.u56 h,
            u57 := fun h => by rw [slot_ne (hz 58 (by decide)) (by decide)]; exact hI.u57 h,
            dn3 := fun h => ⟨upd_of (hI.dn3 h).1, upd_of (hI.dn3 h).2⟩,
            dn9 := fun h => ⟨upd_of (hI.dn9 h).1, upd_of (hI.dn9 h).2⟩,
            dn10 := fun h => upd_of (hI.dn10 h),
            dn11 := fun h => upd_of (hI.dn11 h),
            it := ⟨_, _, _, _, _, _, hT2, by rw [slot_ne (hz 58 (by decide)) (by decide)]; exact hF1, by unfold Fresh; rw [if_pos (show upd L 8 8 = true from rfl)]; exact ⟨_, slot_eq (hz 58 (by decide)), rfl⟩, by rw [slot_ne (hz 58 (by decide)) (by decide)]; exact hR9, by rw [slot_ne (hz 58 (by decide)) (by decide)]; exact hR10⟩ }
  · simp [entsOps] at ho
    subst ho
    rw [if_pos (by rfl)]
    have hLb : L 11 = false := by
      cases hq : L 11 with
      | false => rfl
      | true => have := hI.dn11 hq; rw [hL] at this; cases this
    have hLp : L 8 = true := ha ⟨8, .data⟩ (by simp) rfl
    have hLo : L 4 = true := ha ⟨4, .data⟩ (by simp) rfl
    have hv : a.tmps.getD 54 undef = v10 := hI.u54 hLo
    have hF := hF2
    unfold Fresh at hF
    rw [hLp, if_pos rfl] at hF
    obtain ⟨gf, huf, rfl⟩ := hF
    have hr := hR10.r
    rw [hL, if_neg (by simp)] at hr
    subst hr
    have hb0 := hR10.b
    rw [hLb, if_neg (by simp)] at hb0
    subst hb0
    have hown : w.ownsRow 0 3 1 v10 n xs10 := hT.get (i := 3) rfl
    have hK : Blk w gf 3 #[.int .i64 (base + at_)] := hT.get (i := 5) rfl
    refine wpIn_append_any rfl 0 (e := 3) (z := (.int .i64 0)) (size := 1) (bytes := 8) (by kernel_rfl) (by kernel_rfl) (by kernel_rfl) (by decide) (by decide) (v := v10) (n := n) (xs := xs10) (by simpa [Act.eval] using hv) hown (x := .slice (some ⟨gf, 0, none⟩) 1 1) (m := 1) (news := (#[.int .i64 (base + at_)] : Array Value).toList) (by simpa [Act.eval] using huf) (fresh_src hK (by kernel_rfl) rfl (by decide) rfl) (by omega) (Nat.zero_le _) ?_
    intro v' w' ho hg hf
    have hT2 := hT.step (i := 3) rfl (Turn.rowT (v := v10) (n := n) (xs := xs10) ho hg hf)
    exact { fr := hI.fr.put (by decide) _,
            u50 := fun h => by rw [slot_ne (hz 59 (by decide)) (by decide)]; exact hI.u50 h,
            u51 := fun h => by rw [slot_ne (hz 59 (by decide)) (by decide)]; exact hI.u51 h,
            u54 := fun h => by rw [slot_ne (hz 59 (by decide)) (by decide)]; exact hI.u54 h,
            u55 := fun h => by rw [slot_ne (hz 59 (by decide)) (by decide)]; exact hI.u55 h,
            u56 := fun h => by rw [slot_ne (hz 59 (by decide)) (by decide)]; exact hI.u56 h,
            u57 := fun h => by rw [slot_ne (hz 59 (by decide)) (by decide)]; exact hI.u57 h,
            dn3 := fun h => ⟨upd_of (hI.dn3 h).1, upd_of (hI.dn3 h).2⟩,
            dn9 := fun _ => ⟨upd_of hLo, upd_of hLp⟩,
            dn10 := fun h => upd_of (hI.dn10 h),
            dn11 := fun h => upd_of (hI.dn11 h),
            it := ⟨_, _, _, _, _, _, hT2, by rw [slot_ne (hz 59 (by decide)) (by decide)]; exact hF1, by rw [slot_ne (hz 59 (by decide)) (by decide)]; exact hF2, by rw [slot_ne (hz 59 (by decide)) (by decide)]; exact hR9, ⟨by rw [if_pos (show upd L 9 9 = true from rfl), slot_eq (hz 59 (by decide))], by rw [if_neg (show ¬ upd L 9 11 = true from by rw [show upd L 9 11 = L 11 from rfl, hLb]; simp)]⟩⟩ }
  · simp [entsOps] at ho
    subst ho
    rw [if_pos (by rfl)]
    have hLp : L 3 = true := ha ⟨3, .data⟩ (by simp) rfl
    have hB := hR9.b
    rw [hL, if_neg (by simp)] at hB
    subst hB
    have hr := hR9.r
    rw [hLp, if_pos rfl] at hr
    obtain ⟨u, hu⟩ : ∃ u, u = a.tmps.getD 53 undef := ⟨_, rfl⟩
    rw [← hu] at hr
    subst hr
    obtain ⟨A1, c1, hA1, _, _⟩ := own_slice (hT.get (i := 2) rfl)
    subst hA1
    have hu' : a.tmps[53]?.getD undef = .slice A1 (n + 1) c1 := by rw [← Array.getD_eq_getD_getElem?]; exact hu.symm
    have K := (show Blk w g9 63 #[v9] from hT.get (i := 0) rfl)
    have y0 := K.cell 0
    have f0 := K.frozen 0
    simp at y0
    have hT2 := hT.step (i := 0) rfl (y := Item.blk g9 63 #[.slice A1 (n + 1) c1]) (Turn.cell K 0 (.slice A1 (n + 1) c1))
    refine ⟨by simp [Oper.about], ?_⟩
    rw [Oper.semAt_eq _ _ _ (by intro c hc; cases hc)]
    simp [go_sem, e9, hu', y0, f0]
    show EInv a0 x0 w0 M g9 g10 v9 v10 n xs9 xs10 _ base at_ (upd L 10) a (w.setCell ⟨g9, 0, none⟩ (.slice A1 (n + 1) c1))
    exact { fr := hI.fr,
            u50 := hI.u50,
            u51 := hI.u51,
            u54 := hI.u54,
            u55 := hI.u55,
            u56 := hI.u56,
            u57 := hI.u57,
            dn3 := fun h => ⟨upd_of (hI.dn3 h).1, upd_of (hI.dn3 h).2⟩,
            dn9 := fun h => ⟨upd_of (hI.dn9 h).1, upd_of (hI.dn9 h).2⟩,
            dn10 := fun _ => upd_of hLp,
            dn11 := fun h => upd_of (hI.dn11 h),
            it := ⟨_, _, _, _, _, _, hT2, hF1, hF2, ⟨by rw [if_pos (show upd L 10 3 = true from hLp), ← hu], by rw [if_pos (show upd L 10 10 = true from rfl), ← hu]⟩, hR10⟩ }
  · simp [entsOps] at ho
    subst ho
    rw [if_pos (by rfl)]
    have hLp : L 9 = true := ha ⟨9, .data⟩ (by simp) rfl
    have hB := hR10.b
    rw [hL, if_neg (by simp)] at hB
    subst hB
    have hr := hR10.r
    rw [hLp, if_pos rfl] at hr
    obtain ⟨u, hu⟩ : ∃ u, u = a.tmps.getD 59 undef := ⟨_, rfl⟩
    rw [← hu] at hr
    subst hr
    obtain ⟨A1, c1, hA1, _, _⟩ := own_slice (hT.get (i := 3) rfl)
    subst hA1
    have hu' : a.tmps[59]?.getD undef = .slice A1 (n + 1) c1 := by rw [← Array.getD_eq_getD_getElem?]; exact hu.symm
    have K := (show Blk w g10 68 #[v10] from hT.get (i := 1) rfl)
    have y0 := K.cell 0
    have f0 := K.frozen 0
    simp at y0
    have hT2 := hT.step (i := 1) rfl (y := Item.blk g10 68 #[.slice A1 (n + 1) c1]) (Turn.cell K 0 (.slice A1 (n + 1) c1))
    refine ⟨by simp [Oper.about], ?_⟩
    rw [Oper.semAt_eq _ _ _ (by intro c hc; cases hc)]
    simp [go_sem, e10, hu', y0, f0]
    show EInv a0 x0 w0 M g9 g10 v9 v10 n xs9 xs10 _ base at_ (upd L 11) a (w.setCell ⟨g10, 0, none⟩ (.slice A1 (n + 1) c1))
    exact { fr := hI.fr,
            u50 := hI.u50,
            u51 := hI.u51,
            u54 := hI.u54,
            u55 := hI.u55,
            u56 := hI.u56,
            u57 := hI.u57,
            dn3 := fun h => ⟨upd_of (hI.dn3 h).1, upd_of (hI.dn3 h).2⟩,
            dn9 := fun h => ⟨upd_of (hI.dn9 h).1, upd_of (hI.dn9 h).2⟩,
            dn10 := fun h => upd_of (hI.dn10 h),
            dn11 := fun _ => upd_of hLp,
            it := ⟨_, _, _, _, _, _, hT2, hF1, hF2, hR9, ⟨by rw [if_pos (show upd L 11 9 = true from hLp), ← hu], by rw [if_pos (show upd L 11 11 = true from rfl), ← hu]⟩⟩ }
  · omega
theorem Turn.sub {x : Item} {w w' : World} {L M : List Item} (h : Turn x w (Item.all L) w') (hs : M.Sublist L) : Turn x w (Item.all M) w' :=
  ⟨⟨fun i hi => h.p.1 i (hs.subset hi), h.p.2.sublist hs⟩, h.k, fun k ⟨i, hi, hk⟩ => h.o k ⟨i, hs.subset hi, hk⟩⟩
theorem ents_region {F : Fence} {N id : Nat} {ps : String} {a0 : Act} {x0 : Item} {w0 w : World} {M : List Item} {g9 g10 g4 g13 n : Nat} {v9 v10 : Value} {xs9 xs10 : List Value} {k s m : Int} {key : ByteArray} {A : Option Addr} {p : List UInt8} {c : Nat} {d : Bool} {base at_ : Int} {Q : Exit → Act → World → Prop}
    (hsz : a0.tmps.size = 62) (h9 : a0.tmps.getD 9 undef = .pointer (some ⟨g9, 0, none⟩)) (h10 : a0.tmps.getD 10 undef = .pointer (some ⟨g10, 0, none⟩)) (h4 : a0.tmps.getD 4 undef = .pointer (some ⟨g4, 0, none⟩)) (h13 : a0.tmps.getD 13 undef = .pointer (some ⟨g13, 0, none⟩))
    (h11 : a0.tmps.getD 11 undef = .int .i64 at_) (hM4 : Item.blk g4 3 #[.int .i64 base] ∈ M) (hM13 : Item.blk g13 105 #[.int .i64 k, .int .i64 s, .int .i64 m, .string key, .slice A p.length c, .bool d] ∈ M)
    (hb : -9223372036854775808 ≤ base + at_ ∧ base + at_ ≤ 9223372036854775807) (hn : (n + 1) * 72 ≤ 140737488355328)
    (hT : Turn x0 w0 (Item.all (Item.blk g9 63 #[v9] :: Item.blk g10 68 #[v10] :: Item.rowT 105 6 v9 n xs9 :: Item.rowT 3 1 v10 n xs10 :: M)) w)
    (hk : ∀ (a : Act) (w' : World) (A9 A10 : Option Addr) (c9 c10 : Nat), Fr entsSlots a0 a →
      Turn x0 w0 (Item.all (Item.blk g9 63 #[.slice A9 (n + 1) c9] :: Item.blk g10 68 #[.slice A10 (n + 1) c10] :: Item.rowT 105 6 (.slice A9 (n + 1) c9) (n + 1) (xs9 ++ [.int .i64 k, .int .i64 s, .int .i64 m, .string key, .slice A p.length c, .bool d]) :: Item.rowT 3 1 (.slice A10 (n + 1) c10) (n + 1) (xs10 ++ [.int .i64 (base + at_)]) :: M)) w' → Q .normal a w') :
    (Code.region id (entsOps ps) true).wpIn F N Tryz.prog Q a0 w := by
  refine regionIn_inv (EInv a0 x0 w0 M g9 g10 v9 v10 n xs9 xs10 #[.int .i64 k, .int .i64 s, .int .i64 m, .string key, .slice A p.length c, .bool d] base at_) (by kernel_rfl) (by simp [lexB, entsOps, List.range_succ]) ?_ (ents_step hsz h9 h10 h4 h13 h11 hM4 hM13 hb hn) ?_
  · have h0 : Turn x0 w0 (Item.all (Item.blk g9 63 #[v9] :: Item.blk g10 68 #[v10] :: Item.rowT 105 6 v9 n xs9 :: Item.rowT 3 1 v10 n xs10 :: Item.none :: Item.none :: M)) w.drew := by
      have h1 := ((hT.go (Below.refl _ _).drew).nones.nones)
      exact h1.permR (List.perm_append_comm (l₁ := [Item.none, Item.none]) (l₂ := [Item.blk g9 63 #[v9], Item.blk g10 68 #[v10], Item.rowT 105 6 v9 n xs9, Item.rowT 3 1 v10 n xs10]) |>.append_right M)
    exact { fr := Fr.refl _ _, u50 := fun h => (by cases h), u51 := fun h => (by cases h), u54 := fun h => (by cases h), u55 := fun h => (by cases h), u56 := fun h => (by cases h), u57 := fun h => (by cases h),
            dn3 := fun h => (by cases h), dn9 := fun h => (by cases h), dn10 := fun h => (by cases h), dn11 := fun h => (by cases h), it := ⟨_, _, _, _, _, _, h0, rfl, rfl, ⟨rfl, rfl⟩, ⟨rfl, rfl⟩⟩ }
  · intro L a w' hL hI
    have q3 := hL 3 (by simp [entsOps])
    have q9 := hL 9 (by simp [entsOps])
    have q10 := hL 10 (by simp [entsOps])
    have q11 := hL 11 (by simp [entsOps])
    obtain ⟨b9, b10, r9, r10, f1, f2, hT, _, _, hR9, hR10⟩ := hI.it
    have e1 := hR9.r
    have e2 := hR9.b
    have e3 := hR10.r
    have e4 := hR10.b
    rw [q3, if_pos rfl] at e1
    rw [q10, if_pos rfl] at e2
    rw [q9, if_pos rfl] at e3
    rw [q11, if_pos rfl] at e4
    subst e1; subst e2; subst e3; subst e4
    obtain ⟨A9, c9, hA9, _, _⟩ := own_slice (hT.get (i := 2) rfl)
    obtain ⟨A10, c10, hA10, _, _⟩ := own_slice (hT.get (i := 3) rfl)
    rw [hA9, hA10] at hT
    exact hk a w' A9 A10 c9 c10 hI.fr (hT.sub (by
      refine List.Sublist.cons_cons _ (List.Sublist.cons_cons _ (List.Sublist.cons_cons _ (List.Sublist.cons_cons _ (List.Sublist.cons _ (List.Sublist.cons _ (List.Sublist.refl _)))))))) 
end Go.Proofs.YtmnpchncmbnddaaGreat
/- Pieces whose blocks are all cells: they stay when a range over a function writes its own records. -/
namespace Go.Proofs.YtmnpchncmbnddaaGreat
open Go.RowKit

def Item.solid (x : Item) : Prop := ∀ W k, x.P W → x.own k → ∃ o : Obj, W.heap[k]? = some o ∧ o.isCells = true
theorem solid_blk {g : Nat} {t : TypeId} {cs : Array Value} : (Item.blk g t cs).solid := fun W k h e => by
  cases e
  have h' : Blk W g t cs := h
  exact ⟨_, h', rfl⟩
theorem solid_row {v : Value} {l : List UInt8} : (Item.row v l).solid := fun W k h e => by
  have h' : BOwns W 0 v l := h
  have e' : v.ownBlock = some k := e
  rcases h'.2 with ⟨h2, _⟩ | ⟨g, cap, cur, hv, hg, hh, r⟩
  · rw [h2] at e'; cases e'
  · rw [hv] at e'; injection e' with e'; subst e'; exact ⟨_, hh, rfl⟩
theorem solid_rowT {e : TypeId} {size n : Nat} {v : Value} {xs : List Value} : (Item.rowT e size v n xs).solid := fun W k h e' => by
  have h' : W.ownsRow 0 e size v n xs := h
  have e' : v.ownBlock = some k := e'
  rcases h'.2 with ⟨h2, _⟩ | ⟨g, cap, cur, hv, hg, hh, r⟩
  · rw [h2] at e'; cases e'
  · rw [hv] at e'; injection e' with e'; subst e'; exact ⟨_, hh, rfl⟩
theorem solid_all {L : List Item} (h : ∀ i ∈ L, i.solid) : (Item.all L).solid := fun W k hp ⟨i, hi, ho⟩ => h i hi W k (hp.1 i hi) ho
theorem Turn.kept {w0 W W' : World} {x0 x : Item} {row : Option Nat} (h : Turn x0 w0 x W) (hs : x.solid) (hg : W.grownBy W' row) (hr : ∀ r, row = some r → w0.heap.size ≤ r ∧ ∃ o : Obj, W.heap[r]? = some o ∧ o.isCells = false) : Turn x0 w0 x W' := by
  have hk := Keeps.of_grown hg
  refine ⟨Item.far h.p hk fun k ho e => ?_, h.k.trans hk (fun i hi => ?_), h.o⟩
  · obtain ⟨_, o, h1, h2⟩ := hr k e.symm
    obtain ⟨o', h3, h4⟩ := hs _ k h.p ho
    rw [h1] at h3; injection h3 with h3; subst h3; rw [h2] at h4; cases h4
  · exact .inr (hr i hi.symm).1
theorem Turn.keepsFrom {W W' : World} {x y : Item} {B : Nat} (h : Turn x W y W') (hp : x.P W) (hs : x.solid) : KeepsFrom B W W' := by
  refine ⟨h.k.size, fun k o _ hk ho => ?_⟩
  have hlt : k < W.heap.size := (Array.getElem?_eq_some_iff.1 hk).1
  by_cases hx : x.own k
  · obtain ⟨o', h3, h4⟩ := hs _ k hp hx
    rw [hk] at h3; injection h3 with h3; subst h3; rw [ho] at h4; cases h4
  · exact (h.k.block k hlt hx).trans hk
end Go.Proofs.YtmnpchncmbnddaaGreat
/- Log.Entries: what is told so far. -/
namespace Go.Proofs.YtmnpchncmbnddaaGreat
open Go.RowKit

theorem tellL_stop {t : Nat} {p : List UInt8} (h : ¬ ∃ y : En, y.may ∧ y.enc = p) (r : List (Nat × List UInt8)) : ∀ (A : List (Nat × List UInt8)), (tellL A).length = A.length → tellL (A ++ (t, p) :: r) = tellL A := by
  intro A
  induction A with
  | nil => intro _; rw [List.nil_append, tellL_no h]; rfl
  | cons a A ih =>
    intro hl
    obtain ⟨s, q⟩ := a
    by_cases hq : ∃ y : En, y.may ∧ y.enc = q
    · obtain ⟨y, hm, rfl⟩ := hq
      rw [tellL_ok hm] at hl ⊢
      rw [List.cons_append, tellL_ok hm, ih (by simpa using hl)]
    · rw [tellL_no hq] at hl; simp at hl
theorem tellL_snoc {t : Nat} {x : En} (hm : x.may) : ∀ (A : List (Nat × List UInt8)), (tellL A).length = A.length → tellL (A ++ [(t, x.enc)]) = tellL A ++ [(x, t)] := by
  intro A
  induction A with
  | nil => intro _; rw [List.nil_append, tellL_ok hm]; rfl
  | cons a A ih =>
    intro hl
    obtain ⟨s, q⟩ := a
    by_cases hq : ∃ y : En, y.may ∧ y.enc = q
    · obtain ⟨y, hm', rfl⟩ := hq
      rw [tellL_ok hm'] at hl ⊢
      rw [List.cons_append, tellL_ok hm', ih (by simpa using hl), List.cons_append]
    · rw [tellL_no hq] at hl; simp at hl
/-- An entry that is told: where its value lies. -/
structure Told where
  x : En
  A : Option Addr
  c : Nat
def toldCells (ts : List Told) : List Value := ts.flatMap fun t => (t.x.cells t.A t.c).toList
def toldRows (ts : List Told) : List Item := ts.map fun t => Item.row (.slice t.A t.x.value.length t.c) t.x.value
def endsV (base : Int) (es : List Nat) : List Value := es.map fun e : Nat => Value.int .i64 (base + (e : Int))
def entItems (g9 g10 g4 : Nat) (bs : Int) (v9 v10 : Value) (ts : List Told) (es : List Nat) : List Item :=
  Item.blk g9 63 #[v9] :: Item.blk g10 68 #[v10] :: Item.rowT 105 6 v9 ts.length (toldCells ts) :: Item.rowT 3 1 v10 ts.length (endsV bs es) :: Item.blk g4 3 #[.int .i64 bs] :: toldRows ts
theorem solid_ents (g9 g10 g4 : Nat) (bs : Int) (v9 v10 : Value) (ts : List Told) (es : List Nat) : (Item.all (entItems g9 g10 g4 bs v9 v10 ts es)).solid := by
  refine solid_all fun i hi => ?_
  unfold entItems toldRows at hi
  simp only [List.mem_cons, List.mem_map] at hi
  rcases hi with rfl | rfl | rfl | rfl | rfl | ⟨t, _, rfl⟩
  · exact solid_blk
  · exact solid_blk
  · exact solid_rowT
  · exact solid_rowT
  · exact solid_blk
  · exact solid_row
/-- What is told after some frames. -/
def EntI (x0 : Item) (w0 : World) (g9 g10 g4 : Nat) (bs : Int) (xs : List Got) (W : World) : Prop :=
  ∃ (ts : List Told) (v9 v10 : Value), tellL (xs.map Got.key) = (ts.map Told.x).zip (xs.map Got.at_) ∧ ts.length = xs.length ∧ Turn x0 w0 (Item.all (entItems g9 g10 g4 bs v9 v10 ts (xs.map Got.at_))) W
theorem entI_own {x0 : Item} {w0 : World} {g9 g10 g4 B : Nat} {bs : Int} (hB : w0.heap.size ≤ B) : Go.OwnFrom B (EntI x0 w0 g9 g10 g4 bs) := by
  rintro xs W W' row ⟨ts, v9, v10, h1, h2, hT⟩ hg hr
  exact ⟨ts, v9, v10, h1, h2, hT.kept (solid_ents _ _ _ _ _ _ _ _) hg fun r e => ⟨Nat.le_trans hB (hr r e).1, (hr r e).2⟩⟩
/-- A function that holds a range over a function returns. -/
theorem marks_ret {F : Fence} {n : Nat} {P : Program} {fn : Func} {R : Ending → World → Prop} {a : Act} {w : World} {v : Value} {D : Nat} (hd : a.defers = [{ target := .collected D, args := #[] }]) (hD : w.heap[D]? = some (.deferred (some [])))
    (hr : ∀ w', (results fn a.tmps).run P w' = .ok v w') (hR : R (.returned v) (w.putObj D (.deferred none))) : bodyPostM F n P fn R .ret a w := by
  show LeavesInM F n P fn a.tmps R a.defers .returning w
  rw [hd]
  exact ⟨by simp, .inl ⟨_, _, rfl, run_takeDeferred hD, v, hr _, hR⟩⟩
theorem tellL_len {ts : List En} {A : List (Nat × List UInt8)} {es : List Nat} (h : tellL A = ts.zip es) (h1 : ts.length = A.length) (h2 : es.length = A.length) : (tellL A).length = A.length := by
  rw [h, List.length_zip]; omega
theorem toldCells_snoc (ts : List Told) (t : Told) : toldCells (ts ++ [t]) = toldCells ts ++ (t.x.cells t.A t.c).toList := by simp [toldCells]
theorem endsV_snoc (b : Int) (es : List Nat) (e : Nat) : endsV b (es ++ [e]) = endsV b es ++ [.int .i64 (b + (e : Int))] := by simp [endsV]
theorem toldRows_snoc (ts : List Told) (t : Told) : toldRows (ts ++ [t]) = toldRows ts ++ [Item.row (.slice t.A t.x.value.length t.c) t.x.value] := by simp [toldRows]
theorem ent_round {X0 : Item} {w0 W w' : World} {g9 g10 g4 g13 m₀ : Nat} {bs : Int} {pre : List Got} {ts : List Told} {v9 v10 : Value} {A9 A10 : Option Addr} {c9 c10 : Nat} {x : Got} {t : Told} (htl : tellL (pre.map Got.key) = (ts.map Told.x).zip (pre.map Got.at_)) (hlen : ts.length = pre.length)
    (hT : Turn X0 w0 (Item.all (entItems g9 g10 g4 bs v9 v10 ts (pre.map Got.at_))) W) (hm : t.x.may) (he : t.x.enc = x.p) (hX : ∀ k, X0.own k → k < m₀)
    (h4 : Turn (Item.all (entItems g9 g10 g4 bs v9 v10 ts (pre.map Got.at_))) W (Item.all (Item.blk g9 63 #[.slice A9 (ts.length + 1) c9] :: Item.blk g10 68 #[.slice A10 (ts.length + 1) c10] ::
      Item.rowT 105 6 (.slice A9 (ts.length + 1) c9) (ts.length + 1) (toldCells ts ++ (t.x.cells t.A t.c).toList) :: Item.rowT 3 1 (.slice A10 (ts.length + 1) c10) (ts.length + 1) (endsV bs (pre.map Got.at_) ++ [.int .i64 (bs + (x.at_ : Int))]) ::
      Item.blk g13 105 (t.x.cells t.A t.c) :: Item.row (.slice t.A t.x.value.length t.c) t.x.value :: Item.blk g4 3 #[.int .i64 bs] :: toldRows ts)) w') :
    KeepsFrom w0.heap.size W w' ∧ Mid m₀ w0.heap.size W w' ∧ EntI X0 w0 g9 g10 g4 bs (pre ++ [x]) w' := by
  refine ⟨h4.keepsFrom hT.p (solid_ents _ _ _ _ _ _ _ _), ⟨h4.k.size, fun k h1 h2 => h4.k.block k (Nat.lt_of_lt_of_le h2 hT.k.size) fun ho => ?_⟩, ts ++ [t], .slice A9 (ts.length + 1) c9, .slice A10 (ts.length + 1) c10, ?_, by simp [hlen], ?_⟩
  · rcases hT.o k ho with h | h
    · have := hX k h; omega
    · omega
  · rw [List.map_append, List.map_cons, List.map_nil, List.map_append, List.map_append, List.map_cons, List.map_nil, List.map_cons, List.map_nil]
    rw [List.zip_append (by simp [hlen]), ← htl]
    show tellL (_ ++ [(x.at_, x.p)]) = _
    rw [← he, tellL_snoc hm _ (tellL_len htl (by simp [hlen]) (by simp))]
    rfl
  · have h5 := h4.sub (M := Item.blk g9 63 #[.slice A9 (ts.length + 1) c9] :: Item.blk g10 68 #[.slice A10 (ts.length + 1) c10] ::
      Item.rowT 105 6 (.slice A9 (ts.length + 1) c9) (ts.length + 1) (toldCells ts ++ (t.x.cells t.A t.c).toList) :: Item.rowT 3 1 (.slice A10 (ts.length + 1) c10) (ts.length + 1) (endsV bs (pre.map Got.at_) ++ [.int .i64 (bs + (x.at_ : Int))]) ::
      Item.row (.slice t.A t.x.value.length t.c) t.x.value :: Item.blk g4 3 #[.int .i64 bs] :: toldRows ts) (by
      refine List.Sublist.cons_cons _ (List.Sublist.cons_cons _ (List.Sublist.cons_cons _ (List.Sublist.cons_cons _ (List.Sublist.cons _ (List.Sublist.refl _))))))
    have h6 := h5.permR (((((List.perm_append_singleton (Item.row (.slice t.A t.x.value.length t.c) t.x.value) (Item.blk g4 3 #[.int .i64 bs] :: toldRows ts)).symm.cons _).cons _).cons _).cons _)
    unfold entItems
    rw [List.map_append, List.map_cons, List.map_nil, endsV_snoc, toldCells_snoc, toldRows_snoc, List.length_append]
    exact hT.trans h6
theorem ents_end {X0 : Item} {w w0 W W' : World} {g9 g10 g4 D : Nat} {bs : Int} {ts : List Told} {es : List Nat} {v9 v10 : Value} (hT : Turn X0 w0 (Item.all (entItems g9 g10 g4 bs v9 v10 ts es)) W) (h0 : Turn (Item.all []) w X0 w0) (hW : W'.heap = W.heap) (hos : W'.os = W.os) (htp : W'.output = W.output) (hta : W'.tape = W.tape)
    (hD : w0.heap.size ≤ D) (hDD : W.heap[D]? = some (.deferred (some []))) :
    Turn (Item.all []) w (Item.all (Item.rowT 105 6 v9 ts.length (toldCells ts) :: Item.rowT 3 1 v10 ts.length (endsV bs es) :: toldRows ts)) (W'.putObj D (.deferred none)) := by
  have h1 := (h0.trans hT).go (w'' := W') ⟨hos, hta, htp, by rw [hW]; exact Nat.le_refl _, fun k hk => by rw [hW]⟩
  have h2 := h1.kept (solid_ents _ _ _ _ _ _ _ _) (grownBy_putObj' W' D (.deferred none)) fun r e => by
    cases e
    exact ⟨Nat.le_trans h0.k.size hD, _, by rw [hW]; exact hDD, rfl⟩
  exact h2.sub (List.Sublist.cons _ (List.Sublist.cons _ (List.Sublist.cons_cons _ (List.Sublist.cons_cons _ (List.Sublist.cons _ (List.Sublist.refl _))))))
def gotFrame (a : Act) (x : Got) : Act := { tmps := (((a.tmps.setIfInBounds 41 (.int .i64 x.at_)).setIfInBounds 42 (.slice x.A x.p.length x.c)).setIfInBounds 11 (.int .i64 x.at_)).setIfInBounds 12 (.slice x.A x.p.length x.c), defers := [] }
theorem range_got {F : Fence} {n : Nat} {P : Program} {g : Operand} {assign body : Code} {Q : Exit → Act → World → Prop} {a : Act} {w : World} (hro : F.round = none) (h1 : 1 ≤ n) {gf : Nat} {lb : Array Value} (hg : a.eval g = .func (.func gf) #[] lb) (hF : F.fn gf) (eg : ∀ args w, (callFunc gf args).run P w = .ok (.enter gf args) w)
    {Kp : World → World → Prop} {S Sp : List Got → Prop} {b : List UInt8} (hseq : SeqRd F (n - 1) P gf lb Got.encs Kp (Got.rdP b) S Sp w)
    (hKt : ∀ {A B C : World}, Kp A B → Kp B C → Kp A C) (hKb : ∀ (W : World) (l : Nat) (o o' : Obj), w.heap.size ≤ l → W.heap[l]? = some o → o.isCells = false → o.isWalk = false → Kp W (W.putObj l o'))
    (I : List Got → World → Prop) (Ix : Code → List Got → World → Prop) (hI : Go.OwnFrom w.heap.size I) (hIx : ∀ c, Go.OwnFrom w.heap.size (Ix c)) (h0 : I [] w)
    (hassign : ∀ (l : Nat) (x : Got) (W : World) (K : Act → World → Prop), K (gotFrame a x) W →
      assign.wpIn (F.inRound l) (n - 1 - 1) P (Exit.then K (fun _ _ _ => False)) { tmps := (a.tmps.setIfInBounds 41 (.int .i64 x.at_)).setIfInBounds 42 (.slice x.A x.p.length x.c), defers := [] } W)
    (hbody : ∀ (l : Nat) (pre : List Got) (x : Got) (W : World), I pre W → Got.rdP b pre x W → body.wpIn (F.inRound l) (n - 1 - 1) P (ownPostG w.heap.size Kp I Ix (pre ++ [x]) W) (gotFrame a x) W)
    (hdone : ∀ (D : Nat) (xs : List Got) (W : World), w.heap.size ≤ D → S xs → I xs W → W.heap[D]? = some (.deferred (some [])) → Q .normal { a with defers := { target := .collected D, args := #[] } :: a.defers } W)
    (hstop : ∀ (D : Nat) (c : Code) (pre : List Got) (W : World), w.heap.size ≤ D → Sp pre → Ix c pre W → W.heap[D]? = some (.deferred (some [])) → c.wpIn F n P Q { a with defers := { target := .collected D, args := #[] } :: a.defers } W) :
    (Code.rangeFunc g #[41, 42] assign body).wpIn F n P Q a w :=
  range_rd hro h1 hg hF eg hseq hKt hKb (Got.rdP_own _ _) (Below.refl _ _) (fun _ => rfl) I Ix hI hIx h0 (gotFrame a) (fun l x W K hK => by have h := hassign l x W K hK; simpa [Got.encs] using h) hbody hdone hstop
end Go.Proofs.YtmnpchncmbnddaaGreat
/- Logs: Group, by contract. -/
namespace Go.Proofs.YtmnpchncmbnddaaGreat
open Go.RowKit

end Go.Proofs.YtmnpchncmbnddaaGreat
/- number and row of the reference, by contract. -/
namespace Go.Proofs.YtmnpchncmbnddaaGreat
open Go.RowKit

end Go.Proofs.YtmnpchncmbnddaaGreat
/- What the reference's Decode reads, in plain words: numbers and rows at a place, -1 for none. -/
namespace Go.Proofs.YtmnpchncmbnddaaGreat
open Go.RowKit

/-- The reading has told whatever entry has these bytes; and an entry that it tells, if the reading went to the end, has them. -/
def RTells (b : List UInt8) (x : En) (t : Int) : Prop := (∀ y : En, y.may → y.enc = b → y = x ∧ t = b.length) ∧ (x.may → t = b.length → x.enc = b)
theorem RTells.no {b : List UInt8} {x : En} {t : Int} (h : RTells b x t) (hn : ¬ (x.may ∧ t = b.length)) : ¬ ∃ y : En, y.may ∧ y.enc = b := by
  rintro ⟨y, hm, he⟩
  obtain ⟨rfl, h2⟩ := h.1 y hm he
  exact hn ⟨hm, h2⟩
end Go.Proofs.YtmnpchncmbnddaaGreat
/- row of the reference, by contract. -/
namespace Go.Proofs.YtmnpchncmbnddaaGreat
open Go.RowKit

end Go.Proofs.YtmnpchncmbnddaaGreat
/- The reference's words on kinds, by contract (printed by a program of this claim's own). -/
namespace Go.Proofs.YtmnpchncmbnddaaGreat
open Go.RowKit

end Go.Proofs.YtmnpchncmbnddaaGreat
/- The reference's Check at some kinds, by contract (printed by a program of this claim's own). -/
namespace Go.Proofs.YtmnpchncmbnddaaGreat
open Go.RowKit
end Go.Proofs.YtmnpchncmbnddaaGreat
/- The reference's Check at some kinds, by contract (printed by a program of this claim's own). -/
namespace Go.Proofs.YtmnpchncmbnddaaGreat
open Go.RowKit
end Go.Proofs.YtmnpchncmbnddaaGreat
/- The reference's Check at some kinds, by contract (printed by a program of this claim's own). -/
namespace Go.Proofs.YtmnpchncmbnddaaGreat
open Go.RowKit
end Go.Proofs.YtmnpchncmbnddaaGreat
/- The reference's Check at some kinds, by contract (printed by a program of this claim's own). -/
namespace Go.Proofs.YtmnpchncmbnddaaGreat
open Go.RowKit
end Go.Proofs.YtmnpchncmbnddaaGreat
/- The reference's Check, by contract. -/
namespace Go.Proofs.YtmnpchncmbnddaaGreat
open Go.RowKit
end Go.Proofs.YtmnpchncmbnddaaGreat
/- Decode of the reference, by contract (printed by a program of this claim's own). -/
namespace Go.Proofs.YtmnpchncmbnddaaGreat
open Go.RowKit

/-- The answer and the entry in memory while bytes are read. -/
structure RSt (w0 w : World) (R E : Nat) (cs : Array Value) : Prop where
  bel : Below w0.heap.size w0 w
  res : Blk w R 105 #[.int .i64 0, .int .i64 0, .int .i64 0, .string ⟨#[]⟩, .slice none 0 0, .bool false]
  ent : Blk w E 105 cs
  o1 : w0.heap.size ≤ R
  o2 : R < E
section
variable {w0 w w' : World} {R E : Nat} {cs : Array Value}
theorem RSt.set (h : RSt w0 w R E cs) (i : Nat) (u : Value) : RSt w0 (w.setCell ⟨E, i, none⟩ u) R E (cs.setIfInBounds i u) :=
  ⟨h.bel.setCell (by show w0.heap.size ≤ E; have := h.o1; have := h.o2; omega) _, h.res.far (p := ⟨E, i, none⟩) (by have := h.o2; show ¬ R = E; omega) _, h.ent.set_ i u, h.o1, h.o2⟩
theorem RSt.go (h : RSt w0 w R E cs) (hb : Below w.heap.size w w') : RSt w0 w' R E cs :=
  ⟨h.bel.trans (hb.mono h.bel.size), h.res.below' hb, h.ent.below' hb, h.o1, h.o2⟩
end
end Go.Proofs.YtmnpchncmbnddaaGreat
/- Same, SameVersion, clone: by contract (printed by a program of this claim's own). -/
namespace Go.Proofs.YtmnpchncmbnddaaGreat
open Go.RowKit

/-- The call answers true and leaves what was there. -/
def True_ (w : World) (e : Ending) (w' : World) : Prop := e = .returned (.bool true) ∧ Below w.heap.size w w'
set_option maxRecDepth 100000 in
set_option maxHeartbeats 1000000 in
theorem sameVersion_any {w : World} {A A' : Option Addr} {c c' : Nat} (x : Vn) (h1 : BReads w w.heap.size A x.value) (h2 : BReads w w.heap.size A' x.value) :
    Calls Tryz.prog 107 #[.agg (x.cells A c), .agg (x.cells A' c')] w (True_ w) := by
  obtain ⟨key, s, p, d⟩ := x
  unfold Vn.cells
  simp only at h1 h2 ⊢
  have B0 := Lib.hid (((Below.refl w.heap.size w).alloc (Nat.le_refl _) (.cells #[.string key, .int .i64 s, .slice A p.length c, .bool d] 51)).alloc (by simp) (.cells #[.string key, .int .i64 s, .slice A' p.length c', .bool d] 51))
  have k1 := conv_text (h1.below B0.out) c
  have k2 := conv_text (h2.below B0.out) c'
  obtain ⟨t, ht⟩ : ∃ t : ByteArray, t = ⟨p.toArray⟩ := ⟨_, rfl⟩
  obtain ⟨m, hm⟩ : ∃ m, m = p.length := ⟨_, rfl⟩
  rw [← ht, ← hm] at k1 k2
  rw [← hm] at B0
  rw [← hm]
  clear ht hm h1 h2
  go_enter Tryz.func107, Tryz.ntmps107
  go_wp2
  go_ret
  exact ⟨rfl, B0.out⟩
end Go.Proofs.YtmnpchncmbnddaaGreat
