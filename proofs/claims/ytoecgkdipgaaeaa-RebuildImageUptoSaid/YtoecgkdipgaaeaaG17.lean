/- Contracts and plain laws that this claim leans on, laid together: Cpy1, Cpy2, Sam1, Rb. -/
import Derived.Test.YtoecgkdipgaaeaaG16
set_option linter.all false
set_option linter.unusedVariables false
set_option linter.unusedSimpArgs false
set_option linter.unnecessarySimpa false
/- XCpy1.lean.tpl: a law's copies of versions: its region (printed by gencopies.py), its contract. -/
namespace Go.Proofs.Ytoecgkdipgaaeaa
open Go.RowKit

def cpOps : Array Oper :=
  #[{ dst := some 11, op := Op.move (Operand.tmp 3), type := 23, pos := "law.go:64", after := #[], guard := none },
    { dst := some 12, op := Op.move (Operand.tmp 0), type := 23, pos := "law.go:64", after := #[], guard := none },
    { dst := some 13, op := Op.move (Operand.tmp 4), type := 3, pos := "law.go:64", after := #[], guard := none },
    { dst := some 14, op := Op.indexAddr 23 (Operand.tmp 12) (Operand.tmp 13), type := 0, pos := "law.go:64", after := #[{ on := 1, ground := Ground.data }, { on := 2, ground := Ground.data }], guard := none },
    { dst := some 15, op := Op.fieldAddr 33 (Operand.tmp 14) 0, type := 0, pos := "law.go:64", after := #[{ on := 3, ground := Ground.data }], guard := none },
    { dst := some 16, op := Op.load 9 (Operand.tmp 15), type := 9, pos := "law.go:64", after := #[{ on := 4, ground := Ground.data }], guard := none },
    { dst := some 17, op := Op.move (Operand.tmp 0), type := 23, pos := "law.go:64", after := #[], guard := none },
    { dst := some 18, op := Op.move (Operand.tmp 4), type := 3, pos := "law.go:64", after := #[], guard := none },
    { dst := some 19, op := Op.indexAddr 23 (Operand.tmp 17) (Operand.tmp 18), type := 0, pos := "law.go:64", after := #[{ on := 6, ground := Ground.data }, { on := 7, ground := Ground.data }], guard := none },
    { dst := some 20, op := Op.fieldAddr 33 (Operand.tmp 19) 1, type := 0, pos := "law.go:64", after := #[{ on := 8, ground := Ground.data }], guard := none },
    { dst := some 21, op := Op.load 3 (Operand.tmp 20), type := 3, pos := "law.go:64", after := #[{ on := 9, ground := Ground.data }], guard := none },
    { dst := some 22, op := Op.move (Operand.tmp 0), type := 23, pos := "law.go:64", after := #[], guard := none },
    { dst := some 23, op := Op.move (Operand.tmp 4), type := 3, pos := "law.go:64", after := #[], guard := none },
    { dst := some 24, op := Op.indexAddr 23 (Operand.tmp 22) (Operand.tmp 23), type := 0, pos := "law.go:64", after := #[{ on := 11, ground := Ground.data }, { on := 12, ground := Ground.data }], guard := none },
    { dst := some 25, op := Op.fieldAddr 33 (Operand.tmp 24) 2, type := 0, pos := "law.go:64", after := #[{ on := 13, ground := Ground.data }], guard := none },
    { dst := some 26, op := Op.load 29 (Operand.tmp 25), type := 29, pos := "law.go:64", after := #[{ on := 14, ground := Ground.data }], guard := none },
    { dst := some 27, op := Op.call { callee := Callee.builtin Builtin.append, args := #[Operand.const (Value.slice none 0 0), Operand.tmp 26], argTypes := #[29, 29] }, type := 29, pos := "law.go:64", after := #[{ on := 15, ground := Ground.data }], guard := none },
    { dst := some 28, op := Op.move (Operand.tmp 0), type := 23, pos := "law.go:64", after := #[], guard := none },
    { dst := some 29, op := Op.move (Operand.tmp 4), type := 3, pos := "law.go:64", after := #[], guard := none },
    { dst := some 30, op := Op.indexAddr 23 (Operand.tmp 28) (Operand.tmp 29), type := 0, pos := "law.go:64", after := #[{ on := 17, ground := Ground.data }, { on := 18, ground := Ground.data }], guard := none },
    { dst := some 31, op := Op.fieldAddr 33 (Operand.tmp 30) 3, type := 0, pos := "law.go:64", after := #[{ on := 19, ground := Ground.data }], guard := none },
    { dst := some 32, op := Op.load 4 (Operand.tmp 31), type := 4, pos := "law.go:64", after := #[{ on := 20, ground := Ground.data }], guard := none },
    { dst := some 33, op := Op.build 33 #[(0, Operand.tmp 16), (1, Operand.tmp 21), (2, Operand.tmp 27), (3, Operand.tmp 32)], type := 33, pos := "law.go:64", after := #[{ on := 5, ground := Ground.data }, { on := 10, ground := Ground.data }, { on := 16, ground := Ground.data }, { on := 21, ground := Ground.data }], guard := none },
    { dst := some 34, op := Op.buildSlice 23 1 #[(0, Operand.tmp 33)], type := 23, pos := "law.go:64", after := #[{ on := 22, ground := Ground.data }], guard := none },
    { dst := some 35, op := Op.call { callee := Callee.builtin Builtin.append, args := #[Operand.tmp 11, Operand.tmp 34], argTypes := #[23, 23] }, type := 23, pos := "law.go:64", after := #[{ on := 0, ground := Ground.data }, { on := 23, ground := Ground.data }, { on := 16, ground := Ground.chain }], guard := none },
    { dst := some 3, op := Op.assign (Operand.tmp 35), type := 23, pos := "law.go:64", after := #[{ on := 24, ground := Ground.data }, { on := 24, ground := Ground.chain }, { on := 0, ground := Ground.phase }, { on := 1, ground := Ground.phase }, { on := 2, ground := Ground.phase }, { on := 3, ground := Ground.phase }, { on := 4, ground := Ground.phase }, { on := 5, ground := Ground.phase }, { on := 6, ground := Ground.phase }, { on := 7, ground := Ground.phase }, { on := 8, ground := Ground.phase }, { on := 9, ground := Ground.phase }, { on := 10, ground := Ground.phase }, { on := 11, ground := Ground.phase }, { on := 12, ground := Ground.phase }, { on := 13, ground := Ground.phase }, { on := 14, ground := Ground.phase }, { on := 15, ground := Ground.phase }, { on := 16, ground := Ground.phase }, { on := 17, ground := Ground.phase }, { on := 18, ground := Ground.phase }, { on := 19, ground := Ground.phase }, { on := 20, ground := Ground.phase }, { on := 21, ground := Ground.phase }, { on := 22, ground := Ground.phase }, { on := 23, ground := Ground.phase }, { on := 24, ground := Ground.phase }], guard := none }]
def cpPv (vold : Value) (b off m cm K : Nat) (x : Vn) (Av : Option Addr) (cv : Nat) : Nat → Option (Nat × Value)
  | 0 => some (11, vold)
  | 1 => some (12, .slice (some ⟨b, off, none⟩) m cm)
  | 2 => some (13, .int .i64 K)
  | 3 => some (14, .pointer (some ⟨b, off + K * 4, none⟩))
  | 4 => some (15, .pointer (some ⟨b, off + K * 4, none⟩))
  | 5 => some (16, .string x.key)
  | 6 => some (17, .slice (some ⟨b, off, none⟩) m cm)
  | 7 => some (18, .int .i64 K)
  | 8 => some (19, .pointer (some ⟨b, off + K * 4, none⟩))
  | 9 => some (20, .pointer (some ⟨b, off + K * 4 + 1, none⟩))
  | 10 => some (21, .int .i64 x.stamp)
  | 11 => some (22, .slice (some ⟨b, off, none⟩) m cm)
  | 12 => some (23, .int .i64 K)
  | 13 => some (24, .pointer (some ⟨b, off + K * 4, none⟩))
  | 14 => some (25, .pointer (some ⟨b, off + K * 4 + 2, none⟩))
  | 15 => some (26, .slice Av x.value.length cv)
  | 17 => some (28, .slice (some ⟨b, off, none⟩) m cm)
  | 18 => some (29, .int .i64 K)
  | 19 => some (30, .pointer (some ⟨b, off + K * 4, none⟩))
  | 20 => some (31, .pointer (some ⟨b, off + K * 4 + 3, none⟩))
  | 21 => some (32, .bool x.dead)
  | _ => none
def cpSl : List Nat := [11, 12, 13, 14, 15, 16, 17, 18, 19, 20, 21, 22, 23, 24, 25, 26, 27, 28, 29, 30, 31, 32, 33, 34, 35, 3]
theorem cp_ok {vold : Value} {b off m cm K : Nat} {x : Vn} {Av : Option Addr} {cv sz : Nat} (h : 37 ≤ sz) : ChOk cpSl (cpPv vold b off m cm K x Av cv) sz := by
  constructor
  · intro i d v hi
    unfold cpPv at hi
    split at hi <;> first | (cases hi; exact ⟨by decide, by omega⟩) | cases hi
  · intro i j d v v' hi hj
    have key : ∀ i d v, cpPv vold b off m cm K x Av cv i = some (d, v) → d = i + 11 := by
      intro i d v hi
      unfold cpPv at hi
      split at hi <;> first | (cases hi; rfl) | cases hi
    have := key i d v hi
    have := key j d v' hj
    omega
theorem cp_ne {vold : Value} {b off m cm K : Nat} {x : Vn} {Av : Option Addr} {cv d : Nat} (hd : d ∈ [27, 33, 34, 35, 3]) : ∀ j e v, cpPv vold b off m cm K x Av cv j = some (e, v) → e ≠ d := by
  rintro j e v h rfl
  unfold cpPv at h
  split at h <;> first | (cases h; revert hd; decide) | cases h
/-- How far the chain of the region is. -/
def cpAt (x0 : Item) (w0 : World) (M : List Item) (n : Nat) (vold : Value) (xs : List Value) (x : Vn) (a : Act) (w : World) : Nat → Prop
  | 0 => Turn x0 w0 (Item.all (Item.rowT 33 4 vold n xs :: M)) w
  | 1 => ∃ A c, a.tmps.getD 27 undef = .slice A x.value.length c ∧ Turn x0 w0 (Item.all (Item.rowT 33 4 vold n xs :: Item.row (.slice A x.value.length c) x.value :: M)) w
  | 2 => ∃ A c, a.tmps.getD 33 undef = .agg (x.cells A c) ∧ Turn x0 w0 (Item.all (Item.rowT 33 4 vold n xs :: Item.row (.slice A x.value.length c) x.value :: M)) w
  | 3 => ∃ A c g, a.tmps.getD 34 undef = .slice (some ⟨g, 0, none⟩) 1 1 ∧ Turn x0 w0 (Item.all (Item.rowT 33 4 vold n xs :: Item.blk g 33 (x.cells A c) :: Item.row (.slice A x.value.length c) x.value :: M)) w
  | 4 => ∃ A c A' c', a.tmps.getD 35 undef = .slice A' (n + 1) c' ∧ Turn x0 w0 (Item.all (Item.rowT 33 4 (.slice A' (n + 1) c') (n + 1) (xs ++ (x.cells A c).toList) :: Item.row (.slice A x.value.length c) x.value :: M)) w
  | _ => ∃ A c A' c', a.tmps.getD 3 undef = .slice A' (n + 1) c' ∧ Turn x0 w0 (Item.all (Item.rowT 33 4 (.slice A' (n + 1) c') (n + 1) (xs ++ (x.cells A c).toList) :: Item.row (.slice A x.value.length c) x.value :: M)) w
def cpC (x0 : Item) (w0 : World) (M : List Item) (n : Nat) (vold : Value) (xs : List Value) (x : Vn) (L : Nat → Bool) (a : Act) (w : World) : Prop :=
  ∃ s, s ≤ 5 ∧ L 16 = decide (1 ≤ s) ∧ L 22 = decide (2 ≤ s) ∧ L 23 = decide (3 ≤ s) ∧ L 24 = decide (4 ≤ s) ∧ L 25 = decide (5 ≤ s) ∧ (4 ≤ s → L 0 = true) ∧ (s ≤ 4 → a.tmps.getD 3 undef = vold) ∧ cpAt x0 w0 M n vold xs x a w s
section
variable {x0 : Item} {w0 w : World} {M : List Item} {n : Nat} {vold : Value} {xs : List Value} {x : Vn} {a : Act}
theorem cpAt_turn : ∀ {s}, cpAt x0 w0 M n vold xs x a w s → ∃ P, Turn x0 w0 (Item.all (P ++ M)) w
  | 0, h => ⟨[_], h⟩
  | 1, ⟨A, c, _, h⟩ => ⟨[_, _], h⟩
  | 2, ⟨A, c, _, h⟩ => ⟨[_, _], h⟩
  | 3, ⟨A, c, g, _, h⟩ => ⟨[_, _, _], h⟩
  | 4, ⟨A, c, A', c', _, h⟩ => ⟨[_, _], h⟩
  | s + 5, ⟨A, c, A', c', _, h⟩ => ⟨[_, _], h⟩
theorem cpAt_put {d : Nat} {v : Value} (hd : d < a.tmps.size) (h1 : d ≠ 27) (h2 : d ≠ 33) (h3 : d ≠ 34) (h4 : d ≠ 35) (h5 : d ≠ 3) : ∀ {s}, cpAt x0 w0 M n vold xs x a w s → cpAt x0 w0 M n vold xs x (a.put (some d) v) w s
  | 0, h => h
  | 1, ⟨A, c, e, h⟩ => ⟨A, c, by rw [slot_ne hd (Ne.symm h1)]; exact e, h⟩
  | 2, ⟨A, c, e, h⟩ => ⟨A, c, by rw [slot_ne hd (Ne.symm h2)]; exact e, h⟩
  | 3, ⟨A, c, g, e, h⟩ => ⟨A, c, g, by rw [slot_ne hd (Ne.symm h3)]; exact e, h⟩
  | 4, ⟨A, c, A', c', e, h⟩ => ⟨A, c, A', c', by rw [slot_ne hd (Ne.symm h4)]; exact e, h⟩
  | s + 5, ⟨A, c, A', c', e, h⟩ => ⟨A, c, A', c', by rw [slot_ne hd (Ne.symm h5)]; exact e, h⟩
end
set_option maxRecDepth 100000 in
set_option maxHeartbeats 3200000 in
theorem cp_region {id : Nat} {Q : Exit → Act → World → Prop} {a0 : Act} {x0 : Item} {w0 w : World} {M : List Item} {n : Nat} {vold : Value} {xs : List Value} {b off m cm K : Nat} {x : Vn} {Av : Option Addr} {cv : Nat}
    (hsz : a0.tmps.size = 37) (h0 : a0.tmps.getD 0 undef = .slice (some ⟨b, off, none⟩) m cm) (h4 : a0.tmps.getD 4 undef = .int .i64 K) (h3 : a0.tmps.getD 3 undef = vold) (hKm : K < m) (hm : m ≤ 281474976710656)
    (hcell : ∀ P w', Turn x0 w0 (Item.all (P ++ M)) w' → w'.cell? ⟨b, off + K * 4, none⟩ = some (.string x.key) ∧ w'.cell? ⟨b, off + K * 4 + 1, none⟩ = some (.int .i64 x.stamp) ∧ w'.cell? ⟨b, off + K * 4 + 2, none⟩ = some (.slice Av x.value.length cv) ∧ w'.cell? ⟨b, off + K * 4 + 3, none⟩ = some (.bool x.dead) ∧ BReads w' w'.heap.size Av x.value)
    (hv : x.value.length ≤ 140737488355328) (hn : (n + 1) * 72 ≤ 140737488355328) (hT : Turn x0 w0 (Item.all (Item.rowT 33 4 vold n xs :: M)) w)
    (hk : ∀ (a : Act) (w' : World) (A : Option Addr) (c : Nat) (A' : Option Addr) (c' : Nat), Fr cpSl a0 a → a.tmps.getD 3 undef = .slice A' (n + 1) c' → Turn x0 w0 (Item.all (Item.rowT 33 4 (.slice A' (n + 1) c') (n + 1) (xs ++ (x.cells A c).toList) :: Item.row (.slice A x.value.length c) x.value :: M)) w' → Q .normal a w') :
    (Code.region id cpOps true).wp Try.prog Q a0 w := by
  refine (wpIn_wide (n := 6)).1 ?_
  refine region_chain (sl := cpSl) (pv := cpPv vold b off m cm K x Av cv) (C := cpC x0 w0 M n vold xs x) (by kernel_rfl) (by simp [lexB, cpOps, List.range_succ]) ?hg (cp_ok (by omega)) ?h0 ?hC ?hpure ?hchain ?he
  case hg =>
    intro i o ho
    rcases i with _ | _ | _ | _ | _ | _ | _ | _ | _ | _ | _ | _ | _ | _ | _ | _ | _ | _ | _ | _ | _ | _ | _ | _ | _ | _ | i <;> simp [cpOps] at ho <;> (subst ho; rfl)
  case h0 => exact ⟨0, by omega, rfl, rfl, rfl, rfl, rfl, fun h => by omega, fun _ => h3, hT.go (Below.refl _ _).drew⟩
  case hC =>
    rintro L a w i d v hp hs ⟨s, h0, h6, h9, h10, h11, h12, hL, h3, hA⟩
    have hds : d < a.tmps.size ∧ d ≠ 27 ∧ d ≠ 33 ∧ d ≠ 34 ∧ d ≠ 35 ∧ d ≠ 3 ∧ i ≠ 16 ∧ i ≠ 22 ∧ i ≠ 23 ∧ i ≠ 24 ∧ i ≠ 25 := by
      unfold cpPv at hp
      split at hp <;> first | (cases hp; exact ⟨by omega, by decide, by decide, by decide, by decide, by decide, by decide, by decide, by decide, by decide, by decide⟩) | cases hp
    have hu : ∀ j, j ≠ i → upd L i j = L j := fun j h => by unfold upd; rw [if_neg h]
    obtain ⟨d0, d1, d2, d3, d4, d5, i1, i2, i3, i4, i5⟩ := hds
    exact ⟨s, h0, (hu 16 (Ne.symm i1)).trans h6, (hu 22 (Ne.symm i2)).trans h9, (hu 23 (Ne.symm i3)).trans h10, (hu 24 (Ne.symm i4)).trans h11, (hu 25 (Ne.symm i5)).trans h12, fun h => upd_of (hL h), fun h => by rw [slot_ne d0 (Ne.symm d5)]; exact h3 h, cpAt_put d0 d1 d2 d3 d4 d5 hA⟩
  case he =>
    rintro L a w hL ⟨hfr, _, s, h0, h6, h9, h10, h11, h12, _, _, hA⟩
    have h5 := hL 25 (by simp [cpOps])
    rw [h12] at h5
    have h5' := of_decide_eq_true h5
    obtain rfl : s = 5 := by omega
    obtain ⟨A, c, A', c', e, t⟩ := hA
    exact hk a w A c A' c' hfr e t
  case hpure =>
    rintro L a w i o d v ho hp hLi hdep ⟨hfr, hpu, s, hs5, h6, h9, h10, h11, h12, hL0, h3, hA⟩ K' hK
    have e0 : a.tmps.getD 0 undef = .slice (some ⟨b, off, none⟩) m cm := by rw [hfr.g 0 (by decide)]; exact h0
    have e4 : a.tmps.getD 4 undef = .int .i64 K := by rw [hfr.g 4 (by decide)]; exact h4
    obtain ⟨P, t⟩ := cpAt_turn hA
    obtain ⟨y0, y1, y2, yd, _⟩ := hcell P w t
    have q0 := getD_q e0
    have q4 := getD_q e4
    have hK0 : (0 : Int) ≤ (K : Int) := by omega
    have hK1 : (K : Int) < (m : Int) := by omega
    have hK2 : ¬ ((m : Int) ≤ (K : Int)) := by omega
    rcases i with _ | _ | _ | _ | _ | _ | _ | _ | _ | _ | _ | _ | _ | _ | _ | _ | _ | _ | _ | _ | _ | _ | _ | _ | _ | _ | i
    · simp [cpOps] at ho
      subst ho
      cases hp
      have hs4 : s ≤ 4 := by
        rcases Nat.lt_or_ge 4 s with h | h
        · have := hL0 (by omega); rw [hLi] at this; cases this
        · exact h
      have y3 := h3 hs4
      have z3 := getD_q y3
      refine ⟨by simp [Oper.about], ?_⟩
      rw [Oper.semAt_eq _ _ _ (by intro c hc; cases hc)]
      simp [go_sem, e0, q0, e4, q4, hK0, hK1, hK2, y3, z3]
      exact hK
    · simp [cpOps] at ho
      subst ho
      cases hp
      refine ⟨by simp [Oper.about], ?_⟩
      rw [Oper.semAt_eq _ _ _ (by intro c hc; cases hc)]
      simp [go_sem, e0, q0, e4, q4, hK0, hK1, hK2]
      exact hK
    · simp [cpOps] at ho
      subst ho
      cases hp
      refine ⟨by simp [Oper.about], ?_⟩
      rw [Oper.semAt_eq _ _ _ (by intro c hc; cases hc)]
      simp [go_sem, e0, q0, e4, q4, hK0, hK1, hK2]
      exact hK
    · simp [cpOps] at ho
      subst ho
      cases hp
      have r1 := hpu 1 _ _ rfl (hdep ⟨1, .data⟩ (by simp) rfl)
      have q1 := getD_q r1
      have r2 := hpu 2 _ _ rfl (hdep ⟨2, .data⟩ (by simp) rfl)
      have q2 := getD_q r2
      refine ⟨by simp [Oper.about], ?_⟩
      rw [Oper.semAt_eq _ _ _ (by intro c hc; cases hc)]
      simp [go_sem, r1, q1, r2, q2, e0, q0, e4, q4, hK0, hK1, hK2]
      exact hK
    · simp [cpOps] at ho
      subst ho
      cases hp
      have r3 := hpu 3 _ _ rfl (hdep ⟨3, .data⟩ (by simp) rfl)
      have q3 := getD_q r3
      refine ⟨by simp [Oper.about], ?_⟩
      rw [Oper.semAt_eq _ _ _ (by intro c hc; cases hc)]
      simp [go_sem, r3, q3, e0, q0, e4, q4, hK0, hK1, hK2]
      exact hK
    · simp [cpOps] at ho
      subst ho
      cases hp
      have r4 := hpu 4 _ _ rfl (hdep ⟨4, .data⟩ (by simp) rfl)
      have q4 := getD_q r4
      refine ⟨by simp [Oper.about], ?_⟩
      rw [Oper.semAt_eq _ _ _ (by intro c hc; cases hc)]
      simp [go_sem, r4, q4, e0, q0, e4, q4, hK0, hK1, hK2, y0]
      exact hK
    · simp [cpOps] at ho
      subst ho
      cases hp
      refine ⟨by simp [Oper.about], ?_⟩
      rw [Oper.semAt_eq _ _ _ (by intro c hc; cases hc)]
      simp [go_sem, e0, q0, e4, q4, hK0, hK1, hK2]
      exact hK
    · simp [cpOps] at ho
      subst ho
      cases hp
      refine ⟨by simp [Oper.about], ?_⟩
      rw [Oper.semAt_eq _ _ _ (by intro c hc; cases hc)]
      simp [go_sem, e0, q0, e4, q4, hK0, hK1, hK2]
      exact hK
    · simp [cpOps] at ho
      subst ho
      cases hp
      have r6 := hpu 6 _ _ rfl (hdep ⟨6, .data⟩ (by simp) rfl)
      have q6 := getD_q r6
      have r7 := hpu 7 _ _ rfl (hdep ⟨7, .data⟩ (by simp) rfl)
      have q7 := getD_q r7
      refine ⟨by simp [Oper.about], ?_⟩
      rw [Oper.semAt_eq _ _ _ (by intro c hc; cases hc)]
      simp [go_sem, r6, q6, r7, q7, e0, q0, e4, q4, hK0, hK1, hK2]
      exact hK
    · simp [cpOps] at ho
      subst ho
      cases hp
      have r8 := hpu 8 _ _ rfl (hdep ⟨8, .data⟩ (by simp) rfl)
      have q8 := getD_q r8
      refine ⟨by simp [Oper.about], ?_⟩
      rw [Oper.semAt_eq _ _ _ (by intro c hc; cases hc)]
      simp [go_sem, r8, q8, e0, q0, e4, q4, hK0, hK1, hK2]
      exact hK
    · simp [cpOps] at ho
      subst ho
      cases hp
      have r9 := hpu 9 _ _ rfl (hdep ⟨9, .data⟩ (by simp) rfl)
      have q9 := getD_q r9
      refine ⟨by simp [Oper.about], ?_⟩
      rw [Oper.semAt_eq _ _ _ (by intro c hc; cases hc)]
      simp [go_sem, r9, q9, e0, q0, e4, q4, hK0, hK1, hK2, y1]
      exact hK
    · simp [cpOps] at ho
      subst ho
      cases hp
      refine ⟨by simp [Oper.about], ?_⟩
      rw [Oper.semAt_eq _ _ _ (by intro c hc; cases hc)]
      simp [go_sem, e0, q0, e4, q4, hK0, hK1, hK2]
      exact hK
    · simp [cpOps] at ho
      subst ho
      cases hp
      refine ⟨by simp [Oper.about], ?_⟩
      rw [Oper.semAt_eq _ _ _ (by intro c hc; cases hc)]
      simp [go_sem, e0, q0, e4, q4, hK0, hK1, hK2]
      exact hK
    · simp [cpOps] at ho
      subst ho
      cases hp
      have r11 := hpu 11 _ _ rfl (hdep ⟨11, .data⟩ (by simp) rfl)
      have q11 := getD_q r11
      have r12 := hpu 12 _ _ rfl (hdep ⟨12, .data⟩ (by simp) rfl)
      have q12 := getD_q r12
      refine ⟨by simp [Oper.about], ?_⟩
      rw [Oper.semAt_eq _ _ _ (by intro c hc; cases hc)]
      simp [go_sem, r11, q11, r12, q12, e0, q0, e4, q4, hK0, hK1, hK2]
      exact hK
    · simp [cpOps] at ho
      subst ho
      cases hp
      have r13 := hpu 13 _ _ rfl (hdep ⟨13, .data⟩ (by simp) rfl)
      have q13 := getD_q r13
      refine ⟨by simp [Oper.about], ?_⟩
      rw [Oper.semAt_eq _ _ _ (by intro c hc; cases hc)]
      simp [go_sem, r13, q13, e0, q0, e4, q4, hK0, hK1, hK2]
      exact hK
    · simp [cpOps] at ho
      subst ho
      cases hp
      have r14 := hpu 14 _ _ rfl (hdep ⟨14, .data⟩ (by simp) rfl)
      have q14 := getD_q r14
      refine ⟨by simp [Oper.about], ?_⟩
      rw [Oper.semAt_eq _ _ _ (by intro c hc; cases hc)]
      simp [go_sem, r14, q14, e0, q0, e4, q4, hK0, hK1, hK2, y2]
      exact hK
    · cases hp
    · simp [cpOps] at ho
      subst ho
      cases hp
      refine ⟨by simp [Oper.about], ?_⟩
      rw [Oper.semAt_eq _ _ _ (by intro c hc; cases hc)]
      simp [go_sem, e0, q0, e4, q4, hK0, hK1, hK2]
      exact hK
    · simp [cpOps] at ho
      subst ho
      cases hp
      refine ⟨by simp [Oper.about], ?_⟩
      rw [Oper.semAt_eq _ _ _ (by intro c hc; cases hc)]
      simp [go_sem, e0, q0, e4, q4, hK0, hK1, hK2]
      exact hK
    · simp [cpOps] at ho
      subst ho
      cases hp
      have r17 := hpu 17 _ _ rfl (hdep ⟨17, .data⟩ (by simp) rfl)
      have q17 := getD_q r17
      have r18 := hpu 18 _ _ rfl (hdep ⟨18, .data⟩ (by simp) rfl)
      have q18 := getD_q r18
      refine ⟨by simp [Oper.about], ?_⟩
      rw [Oper.semAt_eq _ _ _ (by intro c hc; cases hc)]
      simp [go_sem, r17, q17, r18, q18, e0, q0, e4, q4, hK0, hK1, hK2]
      exact hK
    · simp [cpOps] at ho
      subst ho
      cases hp
      have r19 := hpu 19 _ _ rfl (hdep ⟨19, .data⟩ (by simp) rfl)
      have q19 := getD_q r19
      refine ⟨by simp [Oper.about], ?_⟩
      rw [Oper.semAt_eq _ _ _ (by intro c hc; cases hc)]
      simp [go_sem, r19, q19, e0, q0, e4, q4, hK0, hK1, hK2]
      exact hK
    · simp [cpOps] at ho
      subst ho
      cases hp
      have r20 := hpu 20 _ _ rfl (hdep ⟨20, .data⟩ (by simp) rfl)
      have q20 := getD_q r20
      refine ⟨by simp [Oper.about], ?_⟩
      rw [Oper.semAt_eq _ _ _ (by intro c hc; cases hc)]
      simp [go_sem, r20, q20, e0, q0, e4, q4, hK0, hK1, hK2, yd]
      exact hK
    · cases hp
    · cases hp
    · cases hp
    · cases hp
    · cases hp
  case hchain =>
    rintro L a w i o ho hp hLi hdep ⟨hfr, hpu, s, hs5, h6, h9, h10, h11, h12, hL0, h3, hA⟩ K' hK0 hK
    have hz : a.tmps.size = 37 := by rw [hfr.n, hsz]
    have hu : ∀ j, j ≠ i → upd L i j = L j := fun j h => by unfold upd; rw [if_neg h]
    have hself : upd L i i = true := by unfold upd; rw [if_pos rfl]
    rcases i with _ | _ | _ | _ | _ | _ | _ | _ | _ | _ | _ | _ | _ | _ | _ | _ | _ | _ | _ | _ | _ | _ | _ | _ | _ | _ | i
    · cases hp
    · cases hp
    · cases hp
    · cases hp
    · cases hp
    · cases hp
    · cases hp
    · cases hp
    · cases hp
    · cases hp
    · cases hp
    · cases hp
    · cases hp
    · cases hp
    · cases hp
    · cases hp
    · simp [cpOps] at ho
      subst ho
      obtain rfl : s = 0 := by rw [hLi] at h6; have := of_decide_eq_false h6.symm; omega
      have r26 := hpu 15 _ _ rfl (hdep ⟨15, .data⟩ (by simp) rfl)
      have T : Turn x0 w0 (Item.all (Item.rowT 33 4 vold n xs :: M)) w := hA
      obtain ⟨_, _, _, _, hrd⟩ := hcell [_] w T
      refine wpIn_append_any rfl w.heap.size (e := 5) Try.underlying29 Try.info5 rfl (by decide) (by decide) (v := .slice none 0 0) (n := 0) (xs := []) rfl (World.ownsRow_nil _ _ _ _) (x := .slice Av x.value.length cv) (m := x.value.length) (news := bys x.value) (by simpa [Act.eval] using r26) hrd.src (by omega) (Nat.le_refl _) ?_
      intro v' w' ho hg hf
      obtain ⟨A, c, rfl, _, _⟩ := own_slice ho
      rw [Nat.zero_add] at ho ⊢
      have hb := below_of_nil hg
      refine hK 27 _ w' (by decide) (cp_ne (by decide)) ⟨1, by omega, hself, (hu 22 (by decide)).trans (by rw [h9]; rfl), (hu 23 (by decide)).trans (by rw [h10]; rfl), (hu 24 (by decide)).trans (by rw [h11]; rfl), (hu 25 (by decide)).trans (by rw [h12]; rfl), fun h => by omega, fun h => by rw [slot_ne (by omega) (by decide)]; exact h3 (by omega), A, c, slot_eq (by omega), ?_⟩
      exact (T.more hb (y := Item.row (.slice A x.value.length c) x.value) (owns_less ho (Nat.zero_le _)) (fun k hk => ownsRow_ge ho hk)).permR (List.Perm.swap _ _ _)
    · cases hp
    · cases hp
    · cases hp
    · cases hp
    · cases hp
    · simp [cpOps] at ho
      subst ho
      have l6 : L 16 = true := hdep ⟨16, .data⟩ (by simp) rfl
      obtain rfl : s = 1 := by
        rw [h6] at l6; have := of_decide_eq_true l6
        rw [hLi] at h9; have := of_decide_eq_false h9.symm; omega
      obtain ⟨A, c, r27, T⟩ := hA
      have q27 := getD_q r27
      have q16 := getD_q (hpu 5 _ _ rfl (hdep ⟨5, .data⟩ (by simp) rfl))
      have q21 := getD_q (hpu 10 _ _ rfl (hdep ⟨10, .data⟩ (by simp) rfl))
      have q32 := getD_q (hpu 21 _ _ rfl (hdep ⟨21, .data⟩ (by simp) rfl))
      refine ⟨by simp [Oper.about], ?_⟩
      rw [Oper.semAt_eq _ _ _ (by intro c hc; cases hc)]
      simp [go_sem, q27, q16, q21, q32]
      exact hK 33 _ w (by decide) (cp_ne (by decide)) ⟨2, by omega, (hu 16 (by decide)).trans (by rw [h6]; rfl), hself, (hu 23 (by decide)).trans (by rw [h10]; rfl), (hu 24 (by decide)).trans (by rw [h11]; rfl), (hu 25 (by decide)).trans (by rw [h12]; rfl), fun h => by omega, fun h => by rw [slot_ne (by omega) (by decide)]; exact h3 (by omega), A, c, slot_eq (by omega), T⟩
    · simp [cpOps] at ho
      subst ho
      have l9 : L 22 = true := hdep ⟨22, .data⟩ (by simp) rfl
      obtain rfl : s = 2 := by
        rw [h9] at l9; have := of_decide_eq_true l9
        rw [hLi] at h10; have := of_decide_eq_false h10.symm; omega
      obtain ⟨A, c, r33, T⟩ := hA
      have q33 := getD_q r33
      unfold Vn.cells at q33
      refine ⟨by simp [Oper.about], ?_⟩
      rw [Oper.semAt_eq _ _ _ (by intro c hc; cases hc)]
      simp [go_sem, q33]
      refine hK 34 _ _ (by decide) (cp_ne (by decide)) ⟨3, by omega, (hu 16 (by decide)).trans (by rw [h6]; rfl), (hu 22 (by decide)).trans (by rw [h9]; rfl), hself, (hu 24 (by decide)).trans (by rw [h11]; rfl), (hu 25 (by decide)).trans (by rw [h12]; rfl), fun h => by omega, fun h => by rw [slot_ne (by omega) (by decide)]; exact h3 (by omega), A, c, w.heap.size, slot_eq (by omega), ?_⟩
      exact (T.more (y := Item.blk w.heap.size 33 (x.cells A c)) ((Below.refl _ _).alloc (Nat.le_refl _) (.cells (x.cells A c) 33)) (Blk.new w _ _) (fun k hk => by cases hk; exact Nat.le_refl _)).permR (List.Perm.swap _ _ _)
    · simp [cpOps] at ho
      subst ho
      have l10 : L 23 = true := hdep ⟨23, .data⟩ (by simp) rfl
      have l0 : L 0 = true := hdep ⟨0, .data⟩ (by simp) rfl
      obtain rfl : s = 3 := by
        rw [h10] at l10; have := of_decide_eq_true l10
        rw [hLi] at h11; have := of_decide_eq_false h11.symm; omega
      obtain ⟨A, c, g, r34, T⟩ := hA
      have r11 := hpu 0 _ _ rfl l0
      refine wpIn_append_any rfl 0 (e := 33) Try.underlying23 info_ver rfl (by decide) (by decide) (v := vold) (n := n) (xs := xs) (by simpa [Act.eval] using r11) (T.get (i := 0) rfl) (x := .slice (some ⟨g, 0, none⟩) 1 1) (m := 1) (news := (x.cells A c).toList) (by simpa [Act.eval] using r34) (fresh_src (show Blk w g 33 (x.cells A c) from T.get (i := 1) rfl) Try.underlying23 rfl (by decide) rfl) (by omega) (Nat.zero_le _) ?_
      intro v' w' ho hg hf
      have T2 := T.step (i := 0) rfl (Turn.rowT (v := vold) (n := n) (xs := xs) ho hg hf)
      obtain ⟨A', c', rfl, _, _⟩ := own_slice ho
      refine hK 35 _ _ (by decide) (cp_ne (by decide)) ⟨4, by omega, (hu 16 (by decide)).trans (by rw [h6]; rfl), (hu 22 (by decide)).trans (by rw [h9]; rfl), (hu 23 (by decide)).trans (by rw [h10]; rfl), hself, (hu 25 (by decide)).trans (by rw [h12]; rfl), fun h => upd_of l0, fun h => by rw [slot_ne (by omega) (by decide)]; exact h3 (by omega), A, c, A', c', slot_eq (by omega), ?_⟩
      exact T2.sub (List.Sublist.cons_cons _ (List.Sublist.cons _ (List.Sublist.refl _)))
    · simp [cpOps] at ho
      subst ho
      have l11 : L 24 = true := hdep ⟨24, .data⟩ (by simp) rfl
      obtain rfl : s = 4 := by
        rw [h11] at l11; have := of_decide_eq_true l11
        rw [hLi] at h12; have := of_decide_eq_false h12.symm; omega
      obtain ⟨A, c, A', c', r35, T⟩ := hA
      have q35 := getD_q r35
      refine ⟨by simp [Oper.about], ?_⟩
      rw [Oper.semAt_eq _ _ _ (by intro c hc; cases hc)]
      simp [go_sem, q35]
      exact hK 3 _ w (by decide) (cp_ne (by decide)) ⟨5, by omega, (hu 16 (by decide)).trans (by rw [h6]; rfl), (hu 22 (by decide)).trans (by rw [h9]; rfl), (hu 23 (by decide)).trans (by rw [h10]; rfl), (hu 24 (by decide)).trans (by rw [h11]; rfl), hself, fun h => upd_of (hL0 (by omega)), fun h => by omega, A, c, A', c', slot_eq (by omega), T⟩
    · simp [cpOps] at ho
end Go.Proofs.Ytoecgkdipgaaeaa
/- A law's copies of versions, by contract. -/
namespace Go.Proofs.Ytoecgkdipgaaeaa
open Go.RowKit

def HvPost (l : List Vn) (n : Nat) (w : World) (e : Ending) (w' : World) : Prop :=
  ∃ (hs : List Hv) (A : Option Addr) (c : Nat), hs.map Hv.x = l ∧ e = .returned (.slice A n c) ∧ Turn (Item.all []) w (Item.all (Item.rowT 33 4 (.slice A n c) n (hvCells hs) :: hvRows hs)) w'
set_option maxRecDepth 100000 in
set_option maxHeartbeats 3200000 in
theorem copies19_any {w : World} {B : Nat} {A : Option Addr} {c : Nat} {l : List Vn} (hS : kVn.Sl w B A l) (hB : B ≤ w.heap.size) (hl : l.length ≤ 1099511627776) (hv : ∀ v ∈ l, v.value.length ≤ 140737488355328) :
    Calls Try.prog 12 #[.slice A l.length c] w (HvPost l l.length w) := by
  have HS := Lib.hid hS
  have HV := Lib.hid hv
  have HT0 := Lib.hid ((Turn.none_ (w := w)).more (y := Item.rowT 33 4 (.slice none 0 0) 0 []) (Below.refl _ _) (World.ownsRow_nil _ _ _ _) (fun k hk => by cases hk))
  obtain ⟨N, hN⟩ : ∃ N, N = l.length := ⟨_, rfl⟩
  have HN := Lib.hid hN
  rw [← hN] at hl ⊢
  clear hS hv hN
  go_enter Try.func12, Try.ntmps12
  go_wp2
  go_loopw [4, 3] (fun t u wr => ∃ (K c' : Nat) (A' : Option Addr), t = .int .i64 K ∧ u = .slice A' K c' ∧ K ≤ N ∧ Hid (∃ hs : List Hv, hs.length = K ∧ hs.map Hv.x = l.take K ∧ Turn (Item.all []) w (Item.all (Item.rowT 33 4 (.slice A' K c') K (hvCells hs) :: hvRows hs)) wr)) (fun t _ _ => N - (intOf t).toNat)
  case atStart => exact ⟨0, 0, none, rfl, rfl, by omega, Lib.hid ⟨[], rfl, by simp, HT0.out⟩⟩
  case round =>
    obtain ⟨K, c', A', rfl, rfl, hK, hH⟩ := hrel
    clear HT0
    by_cases hlt : (K : Int) < (N : Int)
    · have hKN : K < l.length := by have := HN.out; omega
      have hKi : K + 1 ≤ N := by omega
      obtain ⟨bb, off, Av, cv, hA, hbb, _, s0, s1, s2, s3, hval, _⟩ := vn_at HS.out hKN
      subst hA
      go_upto_region 5 with fail
      obtain ⟨hs, h1, h2, hT⟩ := hH.out
      refine cp_region (b := bb) (off := off) (m := N) (cm := c) (K := K) (x := l[K]) (Av := Av) (cv := cv) (n := K) (vold := .slice A' K c') (xs := hvCells hs) (M := hvRows hs) rfl rfl rfl rfl (by omega) (by omega) ?hcell (HV.out _ (List.getElem_mem hKN)) (by omega) hT ?hk
      case hcell =>
        intro P w' t
        have hb := t.free
        have hlt : bb < w.heap.size := Nat.lt_of_lt_of_le hbb hB
        exact ⟨(hb.cell (p := ⟨bb, _, none⟩) hlt).trans s0, (hb.cell (p := ⟨bb, _, none⟩) hlt).trans s1, (hb.cell (p := ⟨bb, _, none⟩) hlt).trans s2, (hb.cell (p := ⟨bb, _, none⟩) hlt).trans s3, ((hval.more hB).below hb).more hb.size⟩
      case hk =>
        intro a w' A2 c2 A3 c3 hfr e3 tt
        have HN2 := Lib.hid (show ∃ hs : List Hv, hs.length = K + 1 ∧ hs.map Hv.x = l.take (K + 1) ∧ Turn (Item.all []) w (Item.all (Item.rowT 33 4 (.slice A3 (K + 1) c3) (K + 1) (hvCells hs) :: hvRows hs)) w' from
          ⟨hs ++ [⟨l[K], A2, c2⟩], by simp [h1], by rw [List.map_append, h2, List.take_succ_eq_append_getElem hKN]; rfl, by
            rw [hvCells_snoc, hvRows_snoc]
            exact tt.permR ((List.perm_append_singleton _ _).symm.cons _)⟩)
        have hl := hfr.lit
        simp only [cpSl, List.foldl_cons, List.foldl_nil, List.setIfInBounds_toArray, List.set_cons_zero, List.set_cons_succ, e3] at hl
        rw [hl]
        clear hl hfr e3 tt hT h1 h2 hH s0 s1 s2 s3 hval HS HV
        go_wp2
        exact ⟨⟨K + 1, c3, A3, by go_num, rfl, hKi, HN2⟩, by simp [intOf]; omega⟩
    · obtain rfl : K = N := by omega
      obtain ⟨hs, h1, h2, hT⟩ := hH.out
      have HR := Lib.hid (show HvPost l K w (Ending.returned (.slice A' K c')) wr from
        ⟨hs, A', c', by rw [h2, HN.out, List.take_length], rfl, hT⟩)
      clear hH h1 h2 hT
      go_wp2
      go_ret
      exact HR.out
end Go.Proofs.Ytoecgkdipgaaeaa
/- Laws of layer 19: are two lists alike; the reference's Entries. -/
namespace Go.Proofs.Ytoecgkdipgaaeaa
open Go.RowKit

set_option maxRecDepth 100000 in
set_option maxHeartbeats 3200000 in
theorem sameEntries19_any {w : World} {A A' : Option Addr} {c c' : Nat} {l : List En} (h : kEn.Sl w w.heap.size A l) (h' : kEn.Sl w w.heap.size A' l) (hl : l.length ≤ 140737488355328) : 
    Calls Try.prog 15 #[.slice A l.length c, .slice A' l.length c'] w (True_ w) := by
  have H := Lib.hid h
  have H' := Lib.hid h'
  clear h h'
  go_enter Try.func15, Try.ntmps15
  go_wp2
  go_loopw [5] (fun t wr => ∃ (K : Nat), t = .int .i64 K ∧ K ≤ l.length ∧ Hid (Below w.heap.size w wr)) (fun t _ => l.length - (intOf t).toNat)
  case atStart => exact ⟨0, rfl, by omega, Lib.hid (Below.refl _ _)⟩
  case round =>
    obtain ⟨K, rfl, hK, hB⟩ := hrel
    by_cases hlt : (K : Int) < (l.length : Int)
    · have hKN : K < l.length := by omega
      obtain ⟨bb, off, Av, cv, rfl, hbb, hints, s0, s1, s2, s3, s4, s5, hval⟩ := en_at (H.out.below hB.out) hKN
      obtain ⟨bb', off', Av', cv', rfl, hbb', hints', s0', s1', s2', s3', s4', s5', hval'⟩ := en_at (H'.out.below hB.out) hKN
      have hsz := hB.out.size
      obtain ⟨x, hx⟩ : ∃ x, x = l[K] := ⟨_, rfl⟩
      rw [← hx] at s0 s1 s2 s3 s4 s5 hval s0' s1' s2' s3' s4' s5' hval'
      have HV := Lib.hid ((hval.below (Below.refl _ _).drew).more hsz)
      have HV' := Lib.hid ((hval'.below (Below.refl _ _).drew).more hsz)
      obtain ⟨k, s, n, key, v, dd⟩ := x
      simp only at s0 s1 s2 s3 s4 s5 s0' s1' s2' s3' s4' s5'
      have hKi : K + 1 ≤ l.length := by omega
      clear hx hval hval' hints hints'
      have hbr : bb < wr.drew.heap.size := Nat.lt_of_lt_of_le hbb hsz
      have hbr' : bb' < wr.drew.heap.size := Nat.lt_of_lt_of_le hbb' hsz
      go_wp2_with fail
      go_region_held3 (fun w' => w'.cell? ⟨bb, off + K * 6, none⟩ = some (.int .i64 k) ∧ w'.cell? ⟨bb, off + K * 6 + 1, none⟩ = some (.int .i64 s) ∧ w'.cell? ⟨bb, off + K * 6 + 2, none⟩ = some (.int .i64 n) ∧ w'.cell? ⟨bb, off + K * 6 + 3, none⟩ = some (.string key) ∧ w'.cell? ⟨bb, off + K * 6 + 4, none⟩ = some (.slice Av v.length cv) ∧ w'.cell? ⟨bb, off + K * 6 + 5, none⟩ = some (.bool dd) ∧ w'.cell? ⟨bb', off' + K * 6, none⟩ = some (.int .i64 k) ∧ w'.cell? ⟨bb', off' + K * 6 + 1, none⟩ = some (.int .i64 s) ∧ w'.cell? ⟨bb', off' + K * 6 + 2, none⟩ = some (.int .i64 n) ∧ w'.cell? ⟨bb', off' + K * 6 + 3, none⟩ = some (.string key) ∧ w'.cell? ⟨bb', off' + K * 6 + 4, none⟩ = some (.slice Av' v.length cv') ∧ w'.cell? ⟨bb', off' + K * 6 + 5, none⟩ = some (.bool dd)) (first | (with_reducible exact ⟨s0, s1, s2, s3, s4, s5, s0', s1', s2', s3', s4', s5'⟩) | (with_reducible exact ⟨z0, z1, z2, z3, z4, z5, z0b, z1b, z2b, z3b, z4b, z5b⟩) | go_keep) ((go_at_call 42; refine (same_any (A := Av) (A' := Av') (c := cv) (c' := cv') ⟨k, s, n, key, v, dd⟩ HV.out HV'.out).mono ?_; rintro e w2 ⟨rfl, hb⟩; have HB := Lib.hid (hB.out.trans (((Below.refl wr.heap.size wr).drew.trans hb).mono hsz)); have z0 := (hb.cell (p := ⟨bb, off + K * 6, none⟩) hbr).trans s0; have z1 := (hb.cell (p := ⟨bb, off + K * 6 + 1, none⟩) hbr).trans s1; have z2 := (hb.cell (p := ⟨bb, off + K * 6 + 2, none⟩) hbr).trans s2; have z3 := (hb.cell (p := ⟨bb, off + K * 6 + 3, none⟩) hbr).trans s3; have z4 := (hb.cell (p := ⟨bb, off + K * 6 + 4, none⟩) hbr).trans s4; have z5 := (hb.cell (p := ⟨bb, off + K * 6 + 5, none⟩) hbr).trans s5; have z0b := (hb.cell (p := ⟨bb', off' + K * 6, none⟩) hbr').trans s0'; have z1b := (hb.cell (p := ⟨bb', off' + K * 6 + 1, none⟩) hbr').trans s1'; have z2b := (hb.cell (p := ⟨bb', off' + K * 6 + 2, none⟩) hbr').trans s2'; have z3b := (hb.cell (p := ⟨bb', off' + K * 6 + 3, none⟩) hbr').trans s3'; have z4b := (hb.cell (p := ⟨bb', off' + K * 6 + 4, none⟩) hbr').trans s4'; have z5b := (hb.cell (p := ⟨bb', off' + K * 6 + 5, none⟩) hbr').trans s5'; clear hb))
      go_wp2
      exact ⟨⟨K + 1, by go_num, hKi, HB⟩, by simp [intOf]; omega⟩
    · obtain rfl : K = l.length := by omega
      go_wp2
      go_ret
      exact ⟨rfl, hB.out⟩
set_option maxRecDepth 100000 in
set_option maxHeartbeats 3200000 in
theorem sameVersions19_any {w : World} {A A' : Option Addr} {c c' : Nat} {l : List Vn} (h : kVn.Sl w w.heap.size A l) (h' : kVn.Sl w w.heap.size A' l) (hl : l.length ≤ 140737488355328) : 
    Calls Try.prog 16 #[.slice A l.length c, .slice A' l.length c'] w (True_ w) := by
  have H := Lib.hid h
  have H' := Lib.hid h'
  clear h h'
  go_enter Try.func16, Try.ntmps16
  go_wp2
  go_loopw [5] (fun t wr => ∃ (K : Nat), t = .int .i64 K ∧ K ≤ l.length ∧ Hid (Below w.heap.size w wr)) (fun t _ => l.length - (intOf t).toNat)
  case atStart => exact ⟨0, rfl, by omega, Lib.hid (Below.refl _ _)⟩
  case round =>
    obtain ⟨K, rfl, hK, hB⟩ := hrel
    by_cases hlt : (K : Int) < (l.length : Int)
    · have hKN : K < l.length := by omega
      obtain ⟨bb, off, Av, cv, rfl, hbb, hints, s0, s1, s2, s3, hval, hcap⟩ := vn_at (H.out.below hB.out) hKN
      obtain ⟨bb', off', Av', cv', rfl, hbb', hints', s0', s1', s2', s3', hval', hcap'⟩ := vn_at (H'.out.below hB.out) hKN
      have hsz := hB.out.size
      obtain ⟨x, hx⟩ : ∃ x, x = l[K] := ⟨_, rfl⟩
      rw [← hx] at s0 s1 s2 s3 hval s0' s1' s2' s3' hval'
      have HV := Lib.hid ((hval.below (Below.refl _ _).drew).more hsz)
      have HV' := Lib.hid ((hval'.below (Below.refl _ _).drew).more hsz)
      obtain ⟨key, s, v, dd⟩ := x
      simp only at s0 s1 s2 s3 s0' s1' s2' s3'
      have hKi : K + 1 ≤ l.length := by omega
      clear hx hval hval' hints hints' hcap hcap'
      have hbr : bb < wr.drew.heap.size := Nat.lt_of_lt_of_le hbb hsz
      have hbr' : bb' < wr.drew.heap.size := Nat.lt_of_lt_of_le hbb' hsz
      go_wp2_with fail
      go_region_held3 (fun w' => w'.cell? ⟨bb, off + K * 4, none⟩ = some (.string key) ∧ w'.cell? ⟨bb, off + K * 4 + 1, none⟩ = some (.int .i64 s) ∧ w'.cell? ⟨bb, off + K * 4 + 2, none⟩ = some (.slice Av v.length cv) ∧ w'.cell? ⟨bb, off + K * 4 + 3, none⟩ = some (.bool dd) ∧ w'.cell? ⟨bb', off' + K * 4, none⟩ = some (.string key) ∧ w'.cell? ⟨bb', off' + K * 4 + 1, none⟩ = some (.int .i64 s) ∧ w'.cell? ⟨bb', off' + K * 4 + 2, none⟩ = some (.slice Av' v.length cv') ∧ w'.cell? ⟨bb', off' + K * 4 + 3, none⟩ = some (.bool dd)) (first | (with_reducible exact ⟨s0, s1, s2, s3, s0', s1', s2', s3'⟩) | (with_reducible exact ⟨z0, z1, z2, z3, z0b, z1b, z2b, z3b⟩) | go_keep) ((go_at_call 20; refine (sameVersion_any (A := Av) (A' := Av') (c := cv) (c' := cv') ⟨key, s, v, dd⟩ HV.out HV'.out).mono ?_; rintro e w2 ⟨rfl, hb⟩; have HB := Lib.hid (hB.out.trans (((Below.refl wr.heap.size wr).drew.trans hb).mono hsz)); have z0 := (hb.cell (p := ⟨bb, off + K * 4, none⟩) hbr).trans s0; have z1 := (hb.cell (p := ⟨bb, off + K * 4 + 1, none⟩) hbr).trans s1; have z2 := (hb.cell (p := ⟨bb, off + K * 4 + 2, none⟩) hbr).trans s2; have z3 := (hb.cell (p := ⟨bb, off + K * 4 + 3, none⟩) hbr).trans s3; have z0b := (hb.cell (p := ⟨bb', off' + K * 4, none⟩) hbr').trans s0'; have z1b := (hb.cell (p := ⟨bb', off' + K * 4 + 1, none⟩) hbr').trans s1'; have z2b := (hb.cell (p := ⟨bb', off' + K * 4 + 2, none⟩) hbr').trans s2'; have z3b := (hb.cell (p := ⟨bb', off' + K * 4 + 3, none⟩) hbr').trans s3'; clear hb))
      go_wp2
      exact ⟨⟨K + 1, by go_num, hKi, HB⟩, by simp [intOf]; omega⟩
    · obtain rfl : K = l.length := by omega
      go_wp2
      go_ret
      exact ⟨rfl, hB.out⟩
set_option maxRecDepth 100000 in
set_option maxHeartbeats 3200000 in
theorem rcentries_any {w : World} {B : Nat} {A : Option Addr} {c : Nat} {l : List Vn} {n : Int} (hS : kVn.Sl w B A l) (hB : B ≤ w.heap.size) (hl : l.length ≤ 1099511627776) (hv : ∀ v ∈ l, v.value.length ≤ 140737488355328) :
    Calls Try.prog 14 #[.slice A l.length c, .int .i64 n] w (CEntsPost l n w) := by
  have HS := Lib.hid hS
  have HV := Lib.hid hv
  have HT0 := Lib.hid ((Turn.refl (x := Item.all []) (w := w) ⟨fun _ h => (by cases h), List.Pairwise.nil⟩).more (y := Item.rowT 31 6 (.slice none 0 0) 0 []) (Below.refl _ _) (World.ownsRow_nil _ _ _ _) (fun k hk => by cases hk))
  obtain ⟨N, hN⟩ : ∃ N, N = l.length := ⟨_, rfl⟩
  have HN := Lib.hid hN
  rw [← hN] at hl ⊢
  clear hS hv hN
  go_enter Try.func14, Try.ntmps14
  go_wp2
  go_loopw [6, 5] (fun t u wr => ∃ (K c' : Nat) (A' : Option Addr), t = .int .i64 K ∧ u = .slice A' K c' ∧ K ≤ N ∧ Hid (∃ ts : List Told, ts.length = K ∧ ts.map Told.x = (l.take K).map Vn.ofWrite ∧ Turn (Item.all []) w (Item.all (Item.rowT 31 6 (.slice A' K c') K (toldCells ts) :: toldRows ts)) wr)) (fun t _ _ => N - (intOf t).toNat)
  case atStart => exact ⟨0, 0, none, rfl, rfl, by omega, Lib.hid ⟨[], rfl, by simp, HT0.out⟩⟩
  case round =>
    obtain ⟨K, c', A', rfl, rfl, hK, hH⟩ := hrel
    clear HT0
    by_cases hlt : (K : Int) < (N : Int)
    · have hKN : K < l.length := by have := HN.out; omega
      have hKi : K + 1 ≤ N := by omega
      have hbw : Hid (Below w.heap.size w wr) := by obtain ⟨ts, _, _, hT⟩ := hH.out; exact Lib.hid hT.free
      obtain ⟨bb, off, Av, cv, hA, hbb, hints, s0, s1, s2, s3, hval, hvc⟩ := vn_at (HS.out.keep (fun p hp => hbw.out.cell (Nat.lt_of_lt_of_le hp hB))) hKN
      subst hA
      have hbr : bb < wr.heap.size := Nat.lt_of_lt_of_le hbb (Nat.le_trans hB hbw.out.size)
      have hvl := HV.out _ (List.getElem_mem hKN)
      obtain ⟨x, hx⟩ : ∃ x, x = l[K] := ⟨_, rfl⟩
      have HX := Lib.hid hx
      rw [← hx] at s0 s1 s2 s3 hval hvl
      obtain ⟨key, st, v, dd⟩ := x
      simp only at s0 s1 s2 s3 hval hvl
      have HVW : Hid (BReads wr wr.heap.size Av v) := Lib.hid ((hval.more (Nat.le_trans hB hbw.out.size)))
      clear hx hints hval hvc hbb
      go_wp2_with fail
      refine (rofWrite_any (w := wr) (A := Av) (c := cv) ⟨key, st, v, dd⟩ HVW.out hvl).mono ?_
      rintro e w2 ⟨A2, c2, rfl, ho, hb2⟩
      obtain ⟨E, hE⟩ : ∃ E, E = Vn.ofWrite ⟨key, st, v, dd⟩ := ⟨_, rfl⟩
      have HE := Lib.hid hE
      rw [← hE] at ho ⊢
      clear hE s0 s1 s2 s3
      obtain ⟨ts, h1, h2, h4⟩ := hH.out
      have T2 := Lib.hid (h4.add (y := Item.row (.slice A2 E.value.length c2) E.value) hb2 (owns_less ho (Nat.zero_le _)) (fun k hk => (ho.lt hk).1))
      clear h4 hb2 ho
      obtain ⟨k, s, n', ky, vv, de⟩ := E
      rw [show (En.cells ⟨k, s, n', ky, vv, de⟩ A2 c2) = #[.int .i64 k, .int .i64 s, .int .i64 n', .string ky, .slice A2 vv.length c2, .bool de] from rfl]
      simp only at T2
      go_wp2_with (at_builtin; refine Stop.of ?_)
      have T3 := Lib.hid (T2.out.go ((Below.refl w2.heap.size w2).alloc (Nat.le_refl _) (.cells #[.int .i64 k, .int .i64 s, .int .i64 n', .string ky, .slice A2 vv.length c2, .bool de] 31)))
      refine ⟨wpList_append_any _ rfl rfl 0 Try.underlying25 Try.info31 rfl (by decide) (by decide) rfl (T3.out.get (i := 0) rfl) rfl (fresh_src (Blk.new w2 31 #[.int .i64 k, .int .i64 s, .int .i64 n', .string ky, .slice A2 vv.length c2, .bool de]) Try.underlying25 rfl (by decide) rfl) (by omega) (Nat.zero_le _) ?_⟩
      intro v' w3 ho hg hf
      have T4 := T3.out.step (i := 0) rfl (Turn.rowT (v := .slice A' K c') (n := K) (xs := toldCells ts) ho hg hf)
      obtain ⟨A3, c3, rfl, _, _⟩ := own_slice ho
      have HR := Lib.hid (show ∃ ts : List Told, ts.length = K + 1 ∧ ts.map Told.x = (l.take (K + 1)).map Vn.ofWrite ∧ Turn (Item.all []) w (Item.all (Item.rowT 31 6 (.slice A3 (K + 1) c3) (K + 1) (toldCells ts) :: toldRows ts)) w3 from
        ⟨ts ++ [⟨⟨k, s, n', ky, vv, de⟩, A2, c2⟩], by simp [h1], by
          rw [List.take_succ_eq_append_getElem hKN, List.map_append, List.map_append, h2, ← HX.out]
          show _ ++ [_] = _ ++ [Vn.ofWrite _]
          rw [← HE.out], by
          rw [toldCells_snoc, toldRows_snoc]
          exact T4.permR (List.Perm.cons _ (List.perm_append_singleton _ _).symm)⟩)
      clear h1 h2 T2 T3 T4 ho hg hf hH HVW HX HE
      go_wp2
      exact ⟨⟨K + 1, c3, A3, by go_num, rfl, hKi, HR⟩, by simp [intOf]; omega⟩
    · obtain rfl : K = N := by omega
      obtain ⟨ts, h1, h2, h4⟩ := hH.out
      have T0 := Lib.hid h4
      have H2 := Lib.hid h2
      clear hH h1 h2 h4
      go_wp2_with (at_builtin; refine Stop.of ?_)
      have T3 := Lib.hid ((T0.out.add (y := Item.row (.slice none 0 0) []) (Below.refl _ _) (BOwns.nil _ _) (fun k hk => by cases hk)).go ((Below.refl wr.heap.size wr).alloc (Nat.le_refl _) (.cells #[.int .i64 3, .int .i64 n, .int .i64 K, .string ⟨#[]⟩, .slice none 0 0, .bool false] 31)))
      refine ⟨wpList_append_any _ rfl rfl 0 Try.underlying25 Try.info31 rfl (by decide) (by decide) rfl (T3.out.get (i := 0) rfl) rfl (fresh_src (Blk.new wr 31 #[.int .i64 3, .int .i64 n, .int .i64 K, .string ⟨#[]⟩, .slice none 0 0, .bool false]) Try.underlying25 rfl (by decide) rfl) (by omega) (Nat.zero_le _) ?_⟩
      intro v' w3 ho hg hf
      have T4 := T3.out.step (i := 0) rfl (Turn.rowT (v := .slice A' K c') (n := K) (xs := toldCells ts) ho hg hf)
      obtain ⟨A3, c3, rfl, _, _⟩ := own_slice ho
      have HR := Lib.hid (show CEntsPost l n w (.returned (.slice A3 (K + 1) c3)) w3 from
        ⟨ts ++ [⟨⟨3, n, K, ⟨#[]⟩, [], false⟩, none, 0⟩], A3, c3, by
          unfold entsF
          rw [List.map_append, H2.out, HN.out, List.take_length]; rfl, by rw [HN.out], by
          rw [toldCells_snoc, toldRows_snoc, ← HN.out]
          exact T4.permR (List.Perm.cons _ (List.perm_append_singleton _ _).symm)⟩)
      clear T0 T3 T4 H2 ho hg hf
      go_wp2
      go_ret
      exact HR.out
end Go.Proofs.Ytoecgkdipgaaeaa
/- Rows whose elements hold slices of bytes of their own: bytes written, bytes appended. -/
namespace Go.Proofs.Ytoecgkdipgaaeaa
open Go.RowKit

/-- A slice of bytes of one's own. -/
structure Rb where
  A : Option Addr
  c : Nat
  l : List UInt8
def Rb.v (b : Rb) : Value := .slice b.A b.l.length b.c
def Rb.item (b : Rb) : Item := Item.row b.v b.l
/-- Element i of the row holds the i-th slice. -/
structure RbOk (s o n : Nat) (xs : List Value) (bs : List Rb) : Prop where
  x : xs.length = n * s
  b : bs.length = n
  e : ∀ (i : Nat) (b : Rb), bs[i]? = some b → xs[i * s + o]? = some b.v
  o : o < s
def gB (e : TypeId) (s : Nat) (A : Option Addr) (n c : Nat) (xs : List Value) (bs : List Rb) : Item := Item.all (Item.rowT e s (.slice A n c) n xs :: bs.map Rb.item)
section
variable {w w' : World} {e : TypeId} {s o n c : Nat} {A : Option Addr} {xs : List Value} {bs : List Rb} {b : Rb} {i : Nat}
theorem rb_row (h : (gB e s A n c xs bs).P w) (hi : bs[i]? = some b) : BOwns w 0 b.v b.l :=
  Item.all_get h (x := b.item) (List.mem_cons_of_mem _ (List.mem_map.2 ⟨b, List.mem_of_getElem? hi, rfl⟩))
theorem rb_at (h : (gB e s A n c xs bs).P w) (hok : RbOk s o n xs bs) (hi : bs[i]? = some b) : ∃ g, A = some ⟨g, 0, none⟩ ∧ g < w.heap.size ∧ w.cell? ⟨g, i * s + o, none⟩ = some b.v ∧ w.frozen? ⟨g, i * s + o, none⟩ = false := by
  have hin : i < n := by rw [← hok.b]; exact (List.getElem?_eq_some_iff.1 hi).1
  obtain ⟨g, hA, hg, _, _, hf, hc⟩ := rowT_at (Item.all_get h (List.mem_cons_self ..)) (by omega)
  have ho := hok.o
  have hle : i * s + o < n * s := by
    have h1 : i * s + s ≤ n * s := by rw [← Nat.succ_mul]; exact Nat.mul_le_mul_right s hin
    omega
  exact ⟨g, hA, hg, (hc _ hle).trans (hok.e i b hi), hf _⟩
theorem bys_set (l : List UInt8) (j : Nat) (u : UInt8) : bys (l.set j u) = (bys l).set j (.int .u8 (u.toNat : Int)) := by
  unfold bys
  rw [List.map_set]
theorem row_put {g cc j : Nat} {l : List UInt8} (h : (Item.row (.slice (some ⟨g, 0, none⟩) l.length cc) l).P w) (hj : j < l.length) (u : UInt8) : Turn (Item.row (.slice (some ⟨g, 0, none⟩) l.length cc) l) w (Item.row (.slice (some ⟨g, 0, none⟩) l.length cc) (l.set j u)) (w.setCell ⟨g, j, none⟩ (.int .u8 (u.toNat : Int))) := by
  have t := rowT_set (e := 5) (size := 1) (n := l.length) (c := cc) (xs := bys l) (show (Item.rowT 5 1 (.slice (some ⟨g, 0, none⟩) l.length cc) l.length (bys l)).P w from h) (k := j) (by omega) (.int .u8 (u.toNat : Int))
  refine ⟨?_, t.k, t.o⟩
  have := t.p
  show BOwns _ 0 _ _
  unfold BOwns
  rw [List.length_set, bys_set]
  exact this
theorem rb_put (h : (gB e s A n c xs bs).P w) (hok : RbOk s o n xs bs) (hi : bs[i]? = some b) {j : Nat} (hj : j < b.l.length) (u : UInt8) :
    ∃ g, b.A = some ⟨g, 0, none⟩ ∧ (∃ x, w.cell? ⟨g, j, none⟩ = some (.int .u8 x)) ∧ w.frozen? ⟨g, j, none⟩ = false ∧
      Turn (gB e s A n c xs bs) w (gB e s A n c xs (bs.set i ⟨b.A, b.c, b.l.set j u⟩)) (w.setCell ⟨g, j, none⟩ (.int .u8 (u.toNat : Int))) ∧ RbOk s o n xs (bs.set i ⟨b.A, b.c, b.l.set j u⟩) := by
  have hr := rb_row h hi
  obtain ⟨g, hA, _, _, _, hf, hc⟩ := rowT_at (e := 5) (size := 1) (n := b.l.length) (c := b.c) (A := b.A) (xs := bys b.l) (show (Item.rowT 5 1 (.slice b.A b.l.length b.c) b.l.length (bys b.l)).P w from hr) (by omega)
  have hlt : i < bs.length := (List.getElem?_eq_some_iff.1 hi).1
  have hb : bs[i] = b := (List.getElem?_eq_some_iff.1 hi).2
  refine ⟨g, hA, ?_, hf j, ?_, ?_⟩
  · have := hc j (by omega)
    rw [this]
    unfold bys
    rw [List.getElem?_map, List.getElem?_eq_getElem hj]
    exact ⟨_, rfl⟩
  · have t : Turn b.item w (Rb.item ⟨b.A, b.c, b.l.set j u⟩) (w.setCell ⟨g, j, none⟩ (.int .u8 (u.toNat : Int))) := by
      have hr' : (Item.row (.slice (some ⟨g, 0, none⟩) b.l.length b.c) b.l).P w := by rw [← hA]; exact hr
      have t := row_put hr' hj u
      unfold Rb.item Rb.v
      simp only [List.length_set]
      rw [hA]; exact t
    have t2 := Turn.set (i := i + 1) (x := b.item) h (by rw [List.getElem?_cons_succ, List.getElem?_map, hi]; rfl) t
    unfold gB
    rw [List.set_cons_succ] at t2
    rw [List.map_set]; exact t2
  · refine ⟨hok.x, by rw [List.length_set]; exact hok.b, fun k b' hk => ?_, hok.o⟩
    rw [List.getElem?_set] at hk
    split at hk
    · rename_i hik
      subst hik
      simp only [hlt, ↓reduceIte, Option.some.injEq] at hk
      subst hk
      rw [hok.e i b hi]
      unfold Rb.v
      simp
    · exact hok.e k b' hk
theorem rb_app {A' : Option Addr} {c' : Nat} {u : UInt8} {g : Nat} (h : (gB e s (some ⟨g, 0, none⟩) n c xs bs).P w) (hok : RbOk s o n xs bs) (hi : bs[i]? = some b)
    (ho : w'.ownsRow 0 5 1 (.slice A' (b.l.length + 1) c') (b.l.length + 1) (bys b.l ++ [.int .u8 (u.toNat : Int)])) (hg : w.grownBy w' b.v.ownBlock) (hf : (Value.slice A' (b.l.length + 1) c').ownBlock = b.v.ownBlock ∨ (Value.slice A' (b.l.length + 1) c').ownBlock = some w.heap.size) :
    Turn (gB e s (some ⟨g, 0, none⟩) n c xs bs) w (gB e s (some ⟨g, 0, none⟩) n c (xs.set (i * s + o) (.slice A' (b.l.length + 1) c')) (bs.set i ⟨A', c', b.l ++ [u]⟩)) (w'.setCell ⟨g, i * s + o, none⟩ (.slice A' (b.l.length + 1) c')) ∧
      RbOk s o n (xs.set (i * s + o) (.slice A' (b.l.length + 1) c')) (bs.set i ⟨A', c', b.l ++ [u]⟩) ∧ w'.cell? ⟨g, i * s + o, none⟩ = some b.v ∧ w'.frozen? ⟨g, i * s + o, none⟩ = false := by
  have hlt : i < bs.length := (List.getElem?_eq_some_iff.1 hi).1
  have hin : i < n := by rw [← hok.b]; exact hlt
  have hoo := hok.o
  have hle : i * s + o < n * s := by
    have h1 : i * s + s ≤ n * s := by rw [← Nat.succ_mul]; exact Nat.mul_le_mul_right s hin
    omega
  have hbb : BOwns w' 0 (.slice A' (b.l.length + 1) c') (b.l ++ [u]) := by
    show w'.ownsRow _ _ _ _ _ _
    rw [List.length_append, bys_append]; exact ho
  have t : Turn b.item w (Rb.item ⟨A', c', b.l ++ [u]⟩) w' := by
    unfold Rb.item
    have e : (⟨A', c', b.l ++ [u]⟩ : Rb).v = .slice A' (b.l.length + 1) c' := by unfold Rb.v; simp
    rw [e]
    exact ⟨hbb, (Keeps.of_grown hg).mono (fun i hi => .inl hi.symm), fun k hk => by
      have hk' : (Value.slice A' (b.l.length + 1) c').ownBlock = some k := hk
      rcases hf with h | h
      · exact .inl (h.symm.trans hk')
      · rw [h] at hk'; injection hk' with hk'; exact .inr (by omega)⟩
  have t2 := Turn.set (i := i + 1) (x := b.item) h (by rw [List.getElem?_cons_succ, List.getElem?_map, hi]; rfl) t
  rw [List.set_cons_succ] at t2
  have t3 := rowT_set (e := e) (size := s) (n := n) (c := c) (g := g) (xs := xs) (Item.all_get t2.p (List.mem_cons_self ..)) hle (.slice A' (b.l.length + 1) c')
  obtain ⟨g2, hg2, _, _, _, hfz, hcl⟩ := rowT_at (Item.all_get t2.p (List.mem_cons_self ..)) (by omega)
  cases hg2
  refine ⟨?_, ⟨by rw [List.length_set]; exact hok.x, by rw [List.length_set]; exact hok.b, fun k b' hk => ?_, hok.o⟩, (hcl _ hle).trans (hok.e i b hi), hfz _⟩
  · have := t2.trans (Turn.head t2.p t3)
    unfold gB
    rw [List.map_set]; exact this
  · rw [List.getElem?_set] at hk
    split at hk
    · rename_i hik
      subst hik
      simp only [hlt, ↓reduceIte, Option.some.injEq] at hk
      subst hk
      rw [List.getElem?_set_self (by rw [hok.x]; exact hle)]
      unfold Rb.v
      simp
    · rename_i hik
      rw [List.getElem?_set_ne, hok.e k b' hk]
      intro he
      have h1 : i = k := by
        rcases Nat.lt_trichotomy i k with h | h | h
        · have : (i + 1) * s ≤ k * s := Nat.mul_le_mul_right s h
          rw [Nat.succ_mul] at this; omega
        · exact h
        · have : (k + 1) * s ≤ i * s := Nat.mul_le_mul_right s h
          rw [Nat.succ_mul] at this; omega
      exact hik h1
end
def tBs (ts : List Told) : List Rb := ts.map fun t => ⟨t.A, t.c, t.x.value⟩
def vBs (ts : List Hv) : List Rb := ts.map fun t => ⟨t.A, t.c, t.x.value⟩
theorem told_gB {A : Option Addr} {n c : Nat} {ts : List Told} : Item.all (Item.rowT 31 6 (.slice A n c) n (toldCells ts) :: toldRows ts) = gB 31 6 A n c (toldCells ts) (tBs ts) := by
  unfold gB tBs toldRows
  rw [List.map_map]; rfl
theorem hv_gB {A : Option Addr} {n c : Nat} {ts : List Hv} : Item.all (Item.rowT 33 4 (.slice A n c) n (hvCells ts) :: hvRows ts) = gB 33 4 A n c (hvCells ts) (vBs ts) := by
  unfold gB vBs hvRows
  rw [List.map_map]; rfl
theorem told_ok {n : Nat} {ts : List Told} (hn : ts.length = n) : RbOk 6 4 n (toldCells ts) (tBs ts) := by
  have hf : ∀ i t j, ts[i]? = some t → j < 6 → (toldCells ts)[i * 6 + j]? = (t.x.cells t.A t.c).toList[j]? := fun i t j h hj => by
    unfold toldCells
    rw [List.flatMap_def]
    exact flat_get (L := ts.map fun t => (t.x.cells t.A t.c).toList) (n := 6) (i := i) (j := j) (x := (t.x.cells t.A t.c).toList) (fun x hx => by obtain ⟨t', _, rfl⟩ := List.mem_map.1 hx; rfl) (by rw [List.getElem?_map, h]; rfl) hj
  refine ⟨?_, by unfold tBs; simpa using hn, fun i b hb => ?_, by decide⟩
  · rw [← hn]; clear hn hf; induction ts with
    | nil => rfl
    | cons t r ih => show ((t.x.cells t.A t.c).toList ++ toldCells r).length = _; rw [List.length_append, ih, List.length_cons]; show 6 + _ = _; omega
  · unfold tBs at hb
    rw [List.getElem?_map] at hb
    obtain ⟨t, ht, rfl⟩ := Option.map_eq_some_iff.1 hb
    rw [hf i t 4 ht (by decide)]; rfl
theorem hv_ok {n : Nat} {ts : List Hv} (hn : ts.length = n) : RbOk 4 2 n (hvCells ts) (vBs ts) := by
  have hf : ∀ i t j, ts[i]? = some t → j < 4 → (hvCells ts)[i * 4 + j]? = (t.x.cells t.A t.c).toList[j]? := fun i t j h hj => by
    unfold hvCells
    rw [List.flatMap_def]
    exact flat_get (L := ts.map fun t => (t.x.cells t.A t.c).toList) (n := 4) (i := i) (j := j) (x := (t.x.cells t.A t.c).toList) (fun x hx => by obtain ⟨t', _, rfl⟩ := List.mem_map.1 hx; rfl) (by rw [List.getElem?_map, h]; rfl) hj
  refine ⟨?_, by unfold vBs; simpa using hn, fun i b hb => ?_, by decide⟩
  · rw [← hn]; clear hn hf; induction ts with
    | nil => rfl
    | cons t r ih => show ((t.x.cells t.A t.c).toList ++ hvCells r).length = _; rw [List.length_append, ih, List.length_cons]; show 4 + _ = _; omega
  · unfold vBs at hb
    rw [List.getElem?_map] at hb
    obtain ⟨t, ht, rfl⟩ := Option.map_eq_some_iff.1 hb
    rw [hf i t 2 ht (by decide)]; rfl
theorem tell_ints {w : World} {A : Option Addr} {c n : Nat} {ts : List Told} (h : (Item.all (Item.rowT 31 6 (.slice A n c) n (toldCells ts) :: toldRows ts)).P w) (hn : n = ts.length) (hi : ∀ e ∈ ts.map Told.x, e.ints) : kEn.Sl w w.heap.size A (ts.map Told.x) :=
  sl_of_row (Item.all_get h (List.mem_cons_self ..)) hn (fun k hk => Item.lt _ (Item.all_get h (List.mem_cons_self ..)) hk) (fun t ht => by
    have ho : BOwns w 0 (.slice t.A t.x.value.length t.c) t.x.value := Item.all_get h (x := Item.row (.slice t.A t.x.value.length t.c) t.x.value) (List.mem_cons_of_mem _ (List.mem_map.2 ⟨t, ht, rfl⟩))
    obtain ⟨A1, c1, e, hc, hv⟩ := BOwns.slice ho
    injection e with e1 _ e2
    subst e1; subst e2
    exact ⟨hi _ (List.mem_map.2 ⟨t, ht, rfl⟩), hv, hc⟩)
theorem hv_sl {w : World} {A : Option Addr} {c n : Nat} {ts : List Hv} (h : (Item.all (Item.rowT 33 4 (.slice A n c) n (hvCells ts) :: hvRows ts)).P w) (hn : n = ts.length) (hi : ∀ e ∈ ts.map Hv.x, e.ints) : kVn.Sl w w.heap.size A (ts.map Hv.x) :=
  slv_of_row (Item.all_get h (List.mem_cons_self ..)) hn (fun k hk => Item.lt _ (Item.all_get h (List.mem_cons_self ..)) hk) (fun t ht => by
    have ho : BOwns w 0 (.slice t.A t.x.value.length t.c) t.x.value := Item.all_get h (x := Item.row (.slice t.A t.x.value.length t.c) t.x.value) (List.mem_cons_of_mem _ (List.mem_map.2 ⟨t, ht, rfl⟩))
    obtain ⟨A1, c1, e, hc, hv⟩ := BOwns.slice ho
    injection e with e1 _ e2
    subst e1; subst e2
    exact ⟨hi _ (List.mem_map.2 ⟨t, ht, rfl⟩), hv, hc⟩)
end Go.Proofs.Ytoecgkdipgaaeaa
