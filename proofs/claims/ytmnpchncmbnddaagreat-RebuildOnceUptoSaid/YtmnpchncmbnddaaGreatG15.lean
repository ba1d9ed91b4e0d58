/- Contracts and plain laws that this claim leans on, laid together: Ver1, Ver2, Cpy1, Cpy2, Sam1, Rb. -/
import Derived.Test.YtmnpchncmbnddaaGreatG13
import Derived.Test.YtmnpchncmbnddaaGreatG14
import Derived.Test.YtmnpchncmbnddaaGreatG11
set_option linter.all false
set_option linter.unusedVariables false
set_option linter.unusedSimpArgs false
set_option linter.unnecessarySimpa false
/- store.Versions: the region that appends a version. -/
namespace Go.Proofs.YtmnpchncmbnddaaGreat
open Go.RowKit

def vsOps : Array Oper :=
  #[{ dst := some 25, op := .load 23 (.tmp 3), type := 23, pos := "store.go:170", after := #[], guard := none },
    { dst := some 26, op := .load 9 (.tmp 5), type := 9, pos := "store.go:170", after := #[], guard := none },
    { dst := some 27, op := .fieldAddr 135 (.tmp 8) 0, type := 0, pos := "store.go:170", after := #[], guard := none },
    { dst := some 28, op := .load 3 (.tmp 27), type := 3, pos := "store.go:170", after := #[{ on := 2, ground := .data }], guard := none },
    { dst := some 29, op := .fieldAddr 135 (.tmp 8) 1, type := 0, pos := "store.go:170", after := #[], guard := none },
    { dst := some 30, op := .load 49 (.tmp 29), type := 49, pos := "store.go:170", after := #[{ on := 4, ground := .data }], guard := none },
    { dst := some 31, op := .call { callee := .value (.func 104), args := #[.tmp 30], argTypes := #[49] }, type := 49, pos := "store.go:170", after := #[{ on := 5, ground := .data }], guard := none },
    { dst := some 32, op := .fieldAddr 135 (.tmp 8) 2, type := 0, pos := "store.go:170", after := #[], guard := none },
    { dst := some 33, op := .load 4 (.tmp 32), type := 4, pos := "store.go:170", after := #[{ on := 7, ground := .data }], guard := none },
    { dst := some 34, op := .build 51 #[(0, .tmp 26), (1, .tmp 28), (2, .tmp 31), (3, .tmp 33)], type := 51, pos := "store.go:170", after := #[{ on := 1, ground := .data }, { on := 3, ground := .data }, { on := 6, ground := .data }, { on := 8, ground := .data }], guard := none },
    { dst := some 35, op := .buildSlice 23 1 #[(0, .tmp 34)], type := 23, pos := "store.go:170", after := #[{ on := 9, ground := .data }], guard := none },
    { dst := some 36, op := .call { callee := .builtin .append, args := #[.tmp 25, .tmp 35], argTypes := #[23, 23] }, type := 23, pos := "store.go:170", after := #[{ on := 0, ground := .data }, { on := 10, ground := .data }, { on := 6, ground := .chain }], guard := none },
    { dst := none, op := .store 23 (.tmp 3) (.tmp 36), type := 0, pos := "store.go:170", after := #[{ on := 11, ground := .data }, { on := 11, ground := .chain }, { on := 0, ground := .phase }, { on := 1, ground := .phase }, { on := 2, ground := .phase }, { on := 3, ground := .phase }, { on := 4, ground := .phase }, { on := 5, ground := .phase }, { on := 6, ground := .phase }, { on := 7, ground := .phase }, { on := 8, ground := .phase }, { on := 9, ground := .phase }, { on := 10, ground := .phase }, { on := 11, ground := .phase }], guard := none }]
/-- The region's reads. -/
def vsPv (vold : Value) (key : ByteArray) (g8 : Nat) (l : Lk) : Nat → Option (Nat × Value)
  | 0 => some (25, vold)
  | 1 => some (26, .string key)
  | 2 => some (27, .pointer (some ⟨g8, 0, none⟩))
  | 3 => some (28, .int .i64 l.x.st)
  | 4 => some (29, .pointer (some ⟨g8, 1, none⟩))
  | 5 => some (30, .slice l.A l.x.v.length l.c)
  | 7 => some (32, .pointer (some ⟨g8, 2, none⟩))
  | 8 => some (33, .bool l.x.dead)
  | _ => none
def vsSl : List Nat := [25, 26, 27, 28, 29, 30, 31, 32, 33, 34, 35, 36]
theorem vs_ok {vold : Value} {key : ByteArray} {g8 : Nat} {l : Lk} {sz : Nat} (h : 39 ≤ sz) : ChOk vsSl (vsPv vold key g8 l) sz := by
  constructor
  · intro i d v hi
    unfold vsPv at hi
    split at hi <;> first | (cases hi; exact ⟨by decide, by omega⟩) | cases hi
  · intro i j d v v' hi hj
    unfold vsPv at hi hj
    split at hi <;> split at hj <;> first | rfl | (cases hi; done) | (cases hi; cases hj)
def vsCells (key : ByteArray) (l : Lk) (A : Option Addr) (c : Nat) : Array Value := #[.string key, .int .i64 l.x.st, .slice A l.x.v.length c, .bool l.x.dead]
/-- How far the chain of the region is. -/
def vsAt (x0 : Item) (w0 : World) (M : List Item) (g3 n : Nat) (vold : Value) (xs : List Value) (key : ByteArray) (l : Lk) (a : Act) (w : World) : Nat → Prop
  | 0 => Turn x0 w0 (Item.all (Item.blk g3 23 #[vold] :: Item.rowT 51 4 vold n xs :: M)) w
  | 1 => ∃ A c, a.tmps.getD 31 undef = .slice A l.x.v.length c ∧ Turn x0 w0 (Item.all (Item.blk g3 23 #[vold] :: Item.rowT 51 4 vold n xs :: Item.row (.slice A l.x.v.length c) l.x.v :: M)) w
  | 2 => ∃ A c, a.tmps.getD 34 undef = .agg (vsCells key l A c) ∧ Turn x0 w0 (Item.all (Item.blk g3 23 #[vold] :: Item.rowT 51 4 vold n xs :: Item.row (.slice A l.x.v.length c) l.x.v :: M)) w
  | 3 => ∃ A c g, a.tmps.getD 35 undef = .slice (some ⟨g, 0, none⟩) 1 1 ∧ Turn x0 w0 (Item.all (Item.blk g3 23 #[vold] :: Item.rowT 51 4 vold n xs :: Item.blk g 51 (vsCells key l A c) :: Item.row (.slice A l.x.v.length c) l.x.v :: M)) w
  | 4 => ∃ A c A' c', a.tmps.getD 36 undef = .slice A' (n + 1) c' ∧ Turn x0 w0 (Item.all (Item.blk g3 23 #[vold] :: Item.rowT 51 4 (.slice A' (n + 1) c') (n + 1) (xs ++ (vsCells key l A c).toList) :: Item.row (.slice A l.x.v.length c) l.x.v :: M)) w
  | _ => ∃ A c A' c', Turn x0 w0 (Item.all (Item.blk g3 23 #[.slice A' (n + 1) c'] :: Item.rowT 51 4 (.slice A' (n + 1) c') (n + 1) (xs ++ (vsCells key l A c).toList) :: Item.row (.slice A l.x.v.length c) l.x.v :: M)) w
def vsC (x0 : Item) (w0 : World) (M : List Item) (g3 n : Nat) (vold : Value) (xs : List Value) (key : ByteArray) (l : Lk) (L : Nat → Bool) (a : Act) (w : World) : Prop :=
  ∃ s, s ≤ 5 ∧ L 6 = decide (1 ≤ s) ∧ L 9 = decide (2 ≤ s) ∧ L 10 = decide (3 ≤ s) ∧ L 11 = decide (4 ≤ s) ∧ L 12 = decide (5 ≤ s) ∧ (4 ≤ s → L 0 = true) ∧ vsAt x0 w0 M g3 n vold xs key l a w s
section
variable {x0 : Item} {w0 w : World} {M : List Item} {g3 n : Nat} {vold : Value} {xs : List Value} {key : ByteArray} {l : Lk} {a : Act}
theorem vsAt_turn : ∀ {s}, vsAt x0 w0 M g3 n vold xs key l a w s → ∃ P, Turn x0 w0 (Item.all (P ++ M)) w ∧ (s ≤ 4 → Item.blk g3 23 #[vold] ∈ P)
  | 0, h => ⟨[_, _], h, fun _ => by simp⟩
  | 1, ⟨A, c, _, h⟩ => ⟨[_, _, _], h, fun _ => by simp⟩
  | 2, ⟨A, c, _, h⟩ => ⟨[_, _, _], h, fun _ => by simp⟩
  | 3, ⟨A, c, g, _, h⟩ => ⟨[_, _, _, _], h, fun _ => by simp⟩
  | 4, ⟨A, c, A', c', _, h⟩ => ⟨[_, _, _], h, fun _ => by simp⟩
  | s + 5, ⟨A, c, A', c', h⟩ => ⟨[_, _, _], h, fun h => by omega⟩
theorem vsAt_put {d : Nat} {v : Value} (hd : d < a.tmps.size) (h1 : d ≠ 31) (h2 : d ≠ 34) (h3 : d ≠ 35) (h4 : d ≠ 36) : ∀ {s}, vsAt x0 w0 M g3 n vold xs key l a w s → vsAt x0 w0 M g3 n vold xs key l (a.put (some d) v) w s
  | 0, h => h
  | 1, ⟨A, c, e, h⟩ => ⟨A, c, by rw [slot_ne hd (Ne.symm h1)]; exact e, h⟩
  | 2, ⟨A, c, e, h⟩ => ⟨A, c, by rw [slot_ne hd (Ne.symm h2)]; exact e, h⟩
  | 3, ⟨A, c, g, e, h⟩ => ⟨A, c, g, by rw [slot_ne hd (Ne.symm h3)]; exact e, h⟩
  | 4, ⟨A, c, A', c', e, h⟩ => ⟨A, c, A', c', by rw [slot_ne hd (Ne.symm h4)]; exact e, h⟩
  | s + 5, h => h
end
theorem vs_ne {vold : Value} {key : ByteArray} {g8 : Nat} {l : Lk} {d : Nat} (hd : d ∈ [31, 34, 35, 36]) : ∀ j e v, vsPv vold key g8 l j = some (e, v) → e ≠ d := by
  rintro j e v h rfl
  unfold vsPv at h
  split at h <;> first | (cases h; revert hd; decide) | cases h
theorem info_ver : (Tryz.prog.info? 51).map (fun i => (i.zero, i.size, i.bytes)) = some (some (.agg #[.string ⟨#[]⟩, .int .i64 0, .slice none 0 0, .bool false]), 4, 56) := by kernel_rfl
theorem getD_q {a : Act} {k : Nat} {v : Value} (h : a.tmps.getD k undef = v) : a.tmps[k]?.getD undef = v := by rw [← Array.getD_eq_getD_getElem?]; exact h
set_option maxRecDepth 100000 in
set_option maxHeartbeats 3200000 in
theorem vers_region {F : Fence} {N id : Nat} {Q : Exit → Act → World → Prop} {a0 : Act} {x0 : Item} {w0 w : World} {M : List Item} {g3 g5 g8 n : Nat} {vold : Value} {xs : List Value} {key : ByteArray} {l : Lk}
    (hsz : a0.tmps.size = 39) (h3 : a0.tmps.getD 3 undef = .pointer (some ⟨g3, 0, none⟩)) (h5 : a0.tmps.getD 5 undef = .pointer (some ⟨g5, 0, none⟩)) (h8 : a0.tmps.getD 8 undef = .pointer (some ⟨g8, 0, none⟩))
    (hM5 : Item.blk g5 9 #[.string key] ∈ M) (hM8 : Item.blk g8 135 #[.int .i64 l.x.st, .slice l.A l.x.v.length l.c, .bool l.x.dead] ∈ M)
    (hF : F.fn 104) (hD : F.depth = none)
    (hown : ∀ P w', Turn x0 w0 (Item.all (P ++ M)) w' → CallsIn F (N - 1) Tryz.prog 104 #[.slice l.A l.x.v.length l.c] w' fun e w'' => ∃ A c, e = .returned (.slice A l.x.v.length c) ∧ BOwns w'' w'.heap.size (.slice A l.x.v.length c) l.x.v ∧ Below w'.heap.size w' w'')
    (hn : (n + 1) * 72 ≤ 140737488355328) (hT : Turn x0 w0 (Item.all (Item.blk g3 23 #[vold] :: Item.rowT 51 4 vold n xs :: M)) w)
    (hk : ∀ (a : Act) (w' : World) (A : Option Addr) (c : Nat) (A' : Option Addr) (c' : Nat), Fr vsSl a0 a → Turn x0 w0 (Item.all (Item.blk g3 23 #[.slice A' (n + 1) c'] :: Item.rowT 51 4 (.slice A' (n + 1) c') (n + 1) (xs ++ (vsCells key l A c).toList) :: Item.row (.slice A l.x.v.length c) l.x.v :: M)) w' → Q .normal a w') :
    (Code.region id vsOps true).wpIn F N Tryz.prog Q a0 w := by
  refine region_chain (sl := vsSl) (pv := vsPv vold key g8 l) (C := vsC x0 w0 M g3 n vold xs key l) (by kernel_rfl) (by simp [lexB, vsOps, List.range_succ]) ?hg (vs_ok (by omega)) ?h0 ?hC ?hpure ?hchain ?he
  case hg =>
    intro i o ho
    rcases i with _ | _ | _ | _ | _ | _ | _ | _ | _ | _ | _ | _ | _ | i <;> simp [vsOps] at ho <;> (subst ho; rfl)
  case h0 => exact ⟨0, by omega, rfl, rfl, rfl, rfl, rfl, fun h => by omega, hT.go (Below.refl _ _).drew⟩
  case hC =>
    rintro L a w i d v hp hs ⟨s, h0, h6, h9, h10, h11, h12, hL, hA⟩
    have hds : d < a.tmps.size ∧ d ≠ 31 ∧ d ≠ 34 ∧ d ≠ 35 ∧ d ≠ 36 ∧ i ≠ 6 ∧ i ≠ 9 ∧ i ≠ 10 ∧ i ≠ 11 ∧ i ≠ 12 := by
      unfold vsPv at hp
      split at hp <;> first | (cases hp; exact ⟨by omega, by decide, by decide, by decide, by decide, by decide, by decide, by decide, by decide, by decide⟩) | cases hp
    have hu : ∀ j, j ≠ i → upd L i j = L j := fun j h => by unfold upd; rw [if_neg h]
    refine ⟨s, h0, ?_, ?_, ?_, ?_, ?_, fun h => upd_of (hL h), vsAt_put hds.1 hds.2.1 hds.2.2.1 hds.2.2.2.1 hds.2.2.2.2.1 hA⟩
    · rw [hu 6 (Ne.symm hds.2.2.2.2.2.1)]; exact h6
    · rw [hu 9 (Ne.symm hds.2.2.2.2.2.2.1)]; exact h9
    · rw [hu 10 (Ne.symm hds.2.2.2.2.2.2.2.1)]; exact h10
    · rw [hu 11 (Ne.symm hds.2.2.2.2.2.2.2.2.1)]; exact h11
    · rw [hu 12 (Ne.symm hds.2.2.2.2.2.2.2.2.2)]; exact h12
  case he =>
    rintro L a w hL ⟨hfr, _, s, h0, h6, h9, h10, h11, h12, _, hA⟩
    have h5 := hL 12 (by simp [vsOps])
    rw [h12] at h5
    have h5' := of_decide_eq_true h5
    obtain rfl : s = 5 := by omega
    obtain ⟨A, c, A', c', t⟩ := hA
    exact hk a w A c A' c' hfr t
  case hpure =>
    rintro L a w i o d v ho hp hLi hdep ⟨hfr, hpu, s, h0, h6, h9, h10, h11, h12, hL0, hA⟩ K hK
    have e3 : a.tmps.getD 3 undef = .pointer (some ⟨g3, 0, none⟩) := by rw [hfr.g 3 (by decide)]; exact h3
    have e5 : a.tmps.getD 5 undef = .pointer (some ⟨g5, 0, none⟩) := by rw [hfr.g 5 (by decide)]; exact h5
    have e8 : a.tmps.getD 8 undef = .pointer (some ⟨g8, 0, none⟩) := by rw [hfr.g 8 (by decide)]; exact h8
    obtain ⟨P, t, hP⟩ := vsAt_turn hA
    have b5 : Blk w g5 9 #[.string key] := Item.all_get t.p (List.mem_append.2 (.inr hM5))
    have b8 : Blk w g8 135 #[.int .i64 l.x.st, .slice l.A l.x.v.length l.c, .bool l.x.dead] := Item.all_get t.p (List.mem_append.2 (.inr hM8))
    have y5 := b5.cell 0
    have y80 := b8.cell 0
    have y81 := b8.cell 1
    have y82 := b8.cell 2
    simp at y5 y80 y81 y82
    have q3 := getD_q e3
    have q5 := getD_q e5
    have q8 := getD_q e8
    rcases i with _ | _ | _ | _ | _ | _ | _ | _ | _ | i
    · simp [vsOps] at ho
      subst ho
      cases hp
      have hs4 : s ≤ 4 := by
        rcases Nat.lt_or_ge 4 s with h | h
        · have := hL0 (by omega); rw [hLi] at this; cases this
        · exact h
      have y3 := (show Blk w g3 23 #[vold] from Item.all_get t.p (List.mem_append.2 (.inl (hP hs4)))).cell 0
      simp at y3
      refine ⟨by simp [Oper.about], ?_⟩
      rw [Oper.semAt_eq _ _ _ (by intro c hc; cases hc)]
      simp [go_sem, e3, q3, y3]
      exact hK
    · simp [vsOps] at ho
      subst ho
      cases hp
      refine ⟨by simp [Oper.about], ?_⟩
      rw [Oper.semAt_eq _ _ _ (by intro c hc; cases hc)]
      simp [go_sem, e5, q5, y5]
      exact hK
    · simp [vsOps] at ho
      subst ho
      cases hp
      refine ⟨by simp [Oper.about], ?_⟩
      rw [Oper.semAt_eq _ _ _ (by intro c hc; cases hc)]
      simp [go_sem, e8, q8]
      exact hK
    · simp [vsOps] at ho
      subst ho
      cases hp
      have r27 := hpu 2 _ _ rfl (hdep ⟨2, .data⟩ (by simp) rfl)
      have q27 := getD_q r27
      refine ⟨by simp [Oper.about], ?_⟩
      rw [Oper.semAt_eq _ _ _ (by intro c hc; cases hc)]
      simp [go_sem, r27, q27, y80]
      exact hK
    · simp [vsOps] at ho
      subst ho
      cases hp
      refine ⟨by simp [Oper.about], ?_⟩
      rw [Oper.semAt_eq _ _ _ (by intro c hc; cases hc)]
      simp [go_sem, e8, q8]
      exact hK
    · simp [vsOps] at ho
      subst ho
      cases hp
      have r29 := hpu 4 _ _ rfl (hdep ⟨4, .data⟩ (by simp) rfl)
      have q29 := getD_q r29
      refine ⟨by simp [Oper.about], ?_⟩
      rw [Oper.semAt_eq _ _ _ (by intro c hc; cases hc)]
      simp [go_sem, r29, q29, y81]
      exact hK
    · cases hp
    · simp [vsOps] at ho
      subst ho
      cases hp
      refine ⟨by simp [Oper.about], ?_⟩
      rw [Oper.semAt_eq _ _ _ (by intro c hc; cases hc)]
      simp [go_sem, e8, q8]
      exact hK
    · simp [vsOps] at ho
      subst ho
      cases hp
      have r32 := hpu 7 _ _ rfl (hdep ⟨7, .data⟩ (by simp) rfl)
      have q32 := getD_q r32
      refine ⟨by simp [Oper.about], ?_⟩
      rw [Oper.semAt_eq _ _ _ (by intro c hc; cases hc)]
      simp [go_sem, r32, q32, y82]
      exact hK
    · cases hp
  case hchain =>
    rintro L a w i o ho hp hLi hdep ⟨hfr, hpu, s, h0, h6, h9, h10, h11, h12, hL0, hA⟩ K hK0 hK
    have e3 : a.tmps.getD 3 undef = .pointer (some ⟨g3, 0, none⟩) := by rw [hfr.g 3 (by decide)]; exact h3
    have q3 := getD_q e3
    have hz : a.tmps.size = 39 := by rw [hfr.n, hsz]
    have hu : ∀ j, j ≠ i → upd L i j = L j := fun j h => by unfold upd; rw [if_neg h]
    have hself : upd L i i = true := by unfold upd; rw [if_pos rfl]
    have hlast : ∀ j, j < 13 → i = j → vsPv vold key g8 l j = none := fun j _ e => by rw [← e]; exact hp
    rcases i with _ | _ | _ | _ | _ | _ | _ | _ | _ | _ | _ | _ | _ | i
    · cases hp
    · cases hp
    · cases hp
    · cases hp
    · cases hp
    · cases hp
    · simp [vsOps] at ho
      subst ho
      obtain rfl : s = 0 := by rw [hLi] at h6; have := of_decide_eq_false h6.symm; omega
      have r30 := hpu 5 _ _ rfl (hdep ⟨5, .data⟩ (by simp) rfl)
      have q30 := getD_q r30
      have T : Turn x0 w0 (Item.all (Item.blk g3 23 #[vold] :: Item.rowT 51 4 vold n xs :: M)) w := hA
      have hc := hown [_, _] w T
      have hcf : (callFunc 104 #[.slice l.A l.x.v.length l.c]).run Tryz.prog w = .ok (.enter 104 #[.slice l.A l.x.v.length l.c]) w := callFunc_enter 104 Tryz.f104 _ Tryz.func104 rfl (by kernel_rfl) _ w
      refine ⟨fun f' hf' => ?_, ?_⟩
      · simp [Oper.about, resolve, Target.leads, go_sem] at hf'
        subst hf'; exact hF
      rw [Oper.semAt_eq _ _ _ (by intro c hc; cases hc)]
      simp [go_sem, execOp, resolve, invoke, q30, hcf]
      refine ⟨fun h => (by rw [hD] at h; cases h), hc.mono ?_⟩
      rintro e w' ⟨A, c, rfl, ho, hb⟩
      refine hK 31 _ w' (by decide) (vs_ne (by decide)) ⟨1, by omega, hself, by rw [hu 9 (by decide), h9]; rfl, by rw [hu 10 (by decide), h10]; rfl, by rw [hu 11 (by decide), h11]; rfl, by rw [hu 12 (by decide), h12]; rfl, fun h => by omega, A, c, slot_eq (by omega), ?_⟩
      exact (T.more hb (y := Item.row (.slice A l.x.v.length c) l.x.v) (owns_less ho (Nat.zero_le _)) (fun k hk => (ho.lt hk).1)).permR ((List.perm_append_comm (l₁ := [_]) (l₂ := [_, _])).append_right M)
    · cases hp
    · cases hp
    · simp [vsOps] at ho
      subst ho
      have l6 : L 6 = true := hdep ⟨6, .data⟩ (by simp) rfl
      obtain rfl : s = 1 := by
        rw [h6] at l6; have := of_decide_eq_true l6
        rw [hLi] at h9; have := of_decide_eq_false h9.symm; omega
      obtain ⟨A, c, r31, T⟩ := hA
      have q31 := getD_q r31
      have q26 := getD_q (hpu 1 _ _ rfl (hdep ⟨1, .data⟩ (by simp) rfl))
      have q28 := getD_q (hpu 3 _ _ rfl (hdep ⟨3, .data⟩ (by simp) rfl))
      have q33 := getD_q (hpu 8 _ _ rfl (hdep ⟨8, .data⟩ (by simp) rfl))
      refine ⟨by simp [Oper.about], ?_⟩
      rw [Oper.semAt_eq _ _ _ (by intro c hc; cases hc)]
      simp [go_sem, q31, q26, q28, q33]
      refine hK 34 _ w (by decide) (vs_ne (by decide)) ⟨2, by omega, by rw [hu 6 (by decide), h6]; rfl, hself, by rw [hu 10 (by decide), h10]; rfl, by rw [hu 11 (by decide), h11]; rfl, by rw [hu 12 (by decide), h12]; rfl, fun h => by omega, A, c, slot_eq (by omega), T⟩
    · simp [vsOps] at ho
      subst ho
      have l9 : L 9 = true := hdep ⟨9, .data⟩ (by simp) rfl
      obtain rfl : s = 2 := by
        rw [h9] at l9; have := of_decide_eq_true l9
        rw [hLi] at h10; have := of_decide_eq_false h10.symm; omega
      obtain ⟨A, c, r34, T⟩ := hA
      have q34 := getD_q r34
      unfold vsCells at q34
      refine ⟨by simp [Oper.about], ?_⟩
      rw [Oper.semAt_eq _ _ _ (by intro c hc; cases hc)]
      simp [go_sem, q34]
      refine hK 35 _ _ (by decide) (vs_ne (by decide)) ⟨3, by omega, by rw [hu 6 (by decide), h6]; rfl, by rw [hu 9 (by decide), h9]; rfl, hself, by rw [hu 11 (by decide), h11]; rfl, by rw [hu 12 (by decide), h12]; rfl, fun h => by omega, A, c, w.heap.size, slot_eq (by omega), ?_⟩
      exact (T.more (y := Item.blk w.heap.size 51 (vsCells key l A c)) ((Below.refl _ _).alloc (Nat.le_refl _) (.cells (vsCells key l A c) 51)) (Blk.new w _ _) (fun k hk => by cases hk; exact Nat.le_refl _)).permR ((List.perm_append_comm (l₁ := [_]) (l₂ := [_, _])).append_right (_ :: M))
    · simp [vsOps] at ho
      subst ho
      have l10 : L 10 = true := hdep ⟨10, .data⟩ (by simp) rfl
      have l0 : L 0 = true := hdep ⟨0, .data⟩ (by simp) rfl
      obtain rfl : s = 3 := by
        rw [h10] at l10; have := of_decide_eq_true l10
        rw [hLi] at h11; have := of_decide_eq_false h11.symm; omega
      obtain ⟨A, c, g, r35, T⟩ := hA
      have r25 := hpu 0 _ _ rfl l0
      refine wpIn_append_any rfl 0 (e := 51) Tryz.underlying23 info_ver rfl (by decide) (by decide) (v := vold) (n := n) (xs := xs) (by simpa [Act.eval] using r25) (T.get (i := 1) rfl) (x := .slice (some ⟨g, 0, none⟩) 1 1) (m := 1) (news := (vsCells key l A c).toList) (by simpa [Act.eval] using r35) (fresh_src (show Blk w g 51 (vsCells key l A c) from T.get (i := 2) rfl) Tryz.underlying23 rfl (by decide) rfl) (by omega) (Nat.zero_le _) ?_
      intro v' w' ho hg hf
      have T2 := T.step (i := 1) rfl (Turn.rowT (v := vold) (n := n) (xs := xs) ho hg hf)
      obtain ⟨A', c', rfl, _, _⟩ := own_slice ho
      refine hK 36 _ _ (by decide) (vs_ne (by decide)) ⟨4, by omega, by rw [hu 6 (by decide), h6]; rfl, by rw [hu 9 (by decide), h9]; rfl, by rw [hu 10 (by decide), h10]; rfl, hself, by rw [hu 12 (by decide), h12]; rfl, fun h => upd_of l0, A, c, A', c', slot_eq (by omega), ?_⟩
      exact T2.sub (List.Sublist.cons_cons _ (List.Sublist.cons_cons _ (List.Sublist.cons _ (List.Sublist.refl _))))
    · simp [vsOps] at ho
      subst ho
      have l11 : L 11 = true := hdep ⟨11, .data⟩ (by simp) rfl
      obtain rfl : s = 4 := by
        rw [h11] at l11; have := of_decide_eq_true l11
        rw [hLi] at h12; have := of_decide_eq_false h12.symm; omega
      obtain ⟨A, c, A', c', r36, T⟩ := hA
      have q36 := getD_q r36
      have b3 : Blk w g3 23 #[vold] := T.get (i := 0) rfl
      have y3 := b3.cell 0
      have f3 := b3.frozen 0
      simp at y3
      refine ⟨by simp [Oper.about], ?_⟩
      rw [Oper.semAt_eq _ _ _ (by intro c hc; cases hc)]
      simp [go_sem, e3, q36, y3, f3]
      refine hK0 _ ⟨5, by omega, by rw [hu 6 (by decide), h6]; rfl, by rw [hu 9 (by decide), h9]; rfl, by rw [hu 10 (by decide), h10]; rfl, by rw [hu 11 (by decide), h11]; rfl, hself, fun h => upd_of (hL0 (by omega)), A, c, A', c', ?_⟩
      exact T.step (i := 0) rfl (Turn.cell b3 0 _)
    · simp [vsOps] at ho
end Go.Proofs.YtmnpchncmbnddaaGreat
/- store.Versions, by contract. -/
namespace Go.Proofs.YtmnpchncmbnddaaGreat
open Go.RowKit Go.Shelf
attribute [local go_sem] Oper.semAt_some

/-- A version of a key. -/
def vnOf (k : Key) (x : Lv) : Vn := ⟨⟨k.toArray⟩, x.st, x.v, x.dead⟩
/-- All versions, by key and stamp. -/
def versF (S : PS) : List Vn := S.flatMap fun p => p.2.map (vnOf p.1)
theorem versF_take {S : PS} {K : Nat} (h : K < S.length) : versF (S.take (K + 1)) = versF (S.take K) ++ (S[K]).2.map (vnOf (S[K]).1) := by
  unfold versF
  rw [List.take_succ_eq_append_getElem h, List.flatMap_append]; simp
theorem versF_le (S : PS) (K : Nat) : (versF (S.take K)).length ≤ (versF S).length := by
  conv => rhs; rw [← List.take_append_drop K S]
  unfold versF
  rw [List.flatMap_append, List.length_append]; omega
/-- The marks that ranges over functions left. -/
structure VsM (b : Nat) (ds : List Deferred) (W : World) : Prop where
  a : ∀ d ∈ ds, ∃ D, d = { target := .collected D, args := #[] } ∧ b ≤ D ∧ W.heap[D]? = some (.deferred (some []))
  p : ds.Pairwise fun d e => d ≠ e
theorem VsM.keep {b b' : Nat} {ds : List Deferred} {W W' : World} (h : VsM b ds W) (hk : KeepsFrom b' W W') (hb : b' ≤ b) : VsM b ds W' :=
  ⟨fun d hd => by
    obtain ⟨D, e, h1, h2⟩ := h.a d hd
    exact ⟨D, e, h1, hk.same D _ (Nat.le_trans hb h1) h2 rfl⟩, h.p⟩
theorem marks_all {F : Fence} {n : Nat} {P : Program} {fn : Func} {tmps : Array Value} {R : Ending → World → Prop} {v : Value} {b : Nat} (G : World → Prop) (hG : ∀ w D, G w → b ≤ D → w.heap[D]? = some (.deferred (some [])) → G (w.putObj D (.deferred none)))
    (hr : ∀ w', (results fn tmps).run P w' = .ok v w') (hR : ∀ w, G w → R (.returned v) w) : ∀ {ds : List Deferred} {w : World}, VsM b ds w → G w → LeavesInM F n P fn tmps R ds .returning w
  | [], w, _, h => ⟨v, hr w, hR w h⟩
  | d :: ds, w, hm, h => by
    obtain ⟨D, rfl, h1, h2⟩ := hm.a d (List.mem_cons_self ..)
    obtain ⟨hp1, hp2⟩ := List.pairwise_cons.1 hm.p
    refine ⟨by simp, .inl ⟨D, _, rfl, run_takeDeferred h2, marks_all G hG hr hR ⟨fun e he => ?_, hp2⟩ (hG w D h h1 h2)⟩⟩
    obtain ⟨D', rfl, h3, h4⟩ := hm.a e (List.mem_cons_of_mem _ he)
    have hne : D' ≠ D := fun e2 => hp1 _ he (by rw [e2])
    exact ⟨D', rfl, h3, (World.putObj_heap_other hne).trans h4⟩
theorem ownsRow_ge {W : World} {base : Nat} {e : TypeId} {size n k : Nat} {v : Value} {xs : List Value} (h : W.ownsRow base e size v n xs) (hk : v.ownBlock = some k) : base ≤ k := by
  rcases h.2 with ⟨h2, _⟩ | ⟨g, cap, cur, hv, hb, _⟩
  · rw [h2] at hk; cases hk
  · rw [hv] at hk; cases hk; exact hb
theorem getA_of {β : Type} {l : List (Key × β)} (h : Apart l) {K : Nat} (hK : K < l.length) : getA (l[K]).1 l = some (l[K]).2 := by
  unfold getA
  cases hf : l.find? (fun p => p.1 == (l[K]).1) with
  | none => rw [List.find?_eq_none] at hf; exact absurd (hf _ (List.getElem_mem hK)) (by simp)
  | some p =>
    have h1 := List.mem_of_find?_eq_some hf
    have h2 := List.find?_some hf
    simp only [beq_iff_eq] at h2
    obtain ⟨i, hi, rfl⟩ := List.mem_iff_getElem.1 h1
    by_cases hik : i = K
    · subst hik; rfl
    · unfold Apart at h
      rw [List.pairwise_iff_getElem] at h
      rcases Nat.lt_or_gt_of_ne hik with h3 | h3
      · exact absurd h2 (h i K hi hK h3)
      · exact absurd h2.symm (h K i hK hi h3)
def vsKeys (s : St) : List Value := s.cs.map fun p => encStr p.1
def vsPcs (B n : Nat) (A : Option Addr) (c : Nat) (keys : List Value) (v : Value) (hs : List Hv) : List Item :=
  Item.blk B 23 #[v] :: Item.rowT 51 4 v hs.length (hvCells hs) :: Item.rowT 9 1 (.slice A n c) n keys :: hvRows hs
theorem solid_hv {B n : Nat} {A : Option Addr} {c : Nat} {keys : List Value} {v : Value} {hs : List Hv} : ∀ i ∈ vsPcs B n A c keys v hs, i.solid := by
  intro i hi
  unfold vsPcs at hi
  simp only [List.mem_cons] at hi
  rcases hi with rfl | rfl | rfl | hi
  · exact solid_blk
  · exact solid_rowT
  · exact solid_rowT
  · obtain ⟨t, _, rfl⟩ := List.mem_map.1 hi
    exact solid_row
theorem solid_hvk {B n G : Nat} {A : Option Addr} {c : Nat} {keys : List Value} {v : Value} {hs : List Hv} {cs : Array Value} : ∀ i ∈ Item.blk G 9 cs :: vsPcs B n A c keys v hs, i.solid := by
  intro i hi
  rcases List.mem_cons.1 hi with rfl | hi
  · exact solid_blk
  · exact solid_hv i hi
theorem perm_by {P : List Item} (n : Nat) (hn : P.length = n) (is : List Nat) (h : is.Perm (List.range n)) : P.Perm (is.map fun i => P.getD i Item.none) := by
  subst hn
  have := (h.map fun i => P.getD i Item.none).symm
  rwa [show (List.range P.length).map (fun i => P.getD i Item.none) = P from List.ext_getElem (by simp) (fun i h1 h2 => by simp at h1 h2 ⊢; rw [List.getElem?_eq_getElem h2]; rfl)] at this
theorem hvCells_snoc (ts : List Hv) (t : Hv) : hvCells (ts ++ [t]) = hvCells ts ++ (t.x.cells t.A t.c).toList := by simp [hvCells]
theorem hvRows_snoc (ts : List Hv) (t : Hv) : hvRows (ts ++ [t]) = hvRows ts ++ [Item.row (.slice t.A t.x.value.length t.c) t.x.value] := by simp [hvRows]
/-- What holds ahead of key K. -/
def VsI (w : World) (S : PS) (B n : Nat) (A : Option Addr) (c : Nat) (keys : List Value) (K : Nat) (W : World) : Prop :=
  ∃ (hs : List Hv) (v : Value), hs.map Hv.x = versF (S.take K) ∧ Turn (Item.all []) w (Item.all (vsPcs B n A c keys v hs)) W
def VersPost (S : PS) (w : World) (e : Ending) (w' : World) : Prop :=
  ∃ (hs : List Hv) (A : Option Addr) (c : Nat), hs.map Hv.x = versF S ∧ e = .returned (.slice A hs.length c) ∧ Turn (Item.all []) w (Item.all (Item.rowT 51 4 (.slice A hs.length c) hs.length (hvCells hs) :: hvRows hs)) w'
set_option maxRecDepth 100000 in
set_option maxHeartbeats 6400000 in
theorem versions_any {w : World} {s : St} {N : Nat} (h : s.item.P w) (hok : s.ok N) (hr : Rising s.cs) (hN : N ≤ 16777216) (htot : (versF s.view).length ≤ 1099511627776) :
    Calls Tryz.prog 43 #[.pointer (some ⟨s.gs, 0, none⟩)] w (VersPost s.view w) := by
  have HP := Lib.hid h
  have HOK := Lib.hid hok
  have HRI := Lib.hid hr
  have HTOT := Lib.hid htot
  obtain ⟨n, hn⟩ : ∃ n, n = s.cs.length := ⟨_, rfl⟩
  have HN := Lib.hid hn
  obtain ⟨B, hB⟩ : ∃ B, B = w.heap.size := ⟨_, rfl⟩
  have HB := Lib.hid hB
  obtain ⟨w1, hw1⟩ : ∃ w1, w1 = w.alloc (.cells #[.slice none 0 0] 23) := ⟨_, rfl⟩
  have T1 := Lib.hid (show Turn (Item.all []) w (Item.all [Item.blk B 23 #[.slice none 0 0]]) w1 from by
    rw [hw1, hB]; exact (Turn.none_ (w := w)).more ((Below.refl _ _).alloc (Nat.le_refl _) _) (Blk.new _ _ _) (fun k hk => by cases hk; exact Nat.le_refl _))
  have HK := Lib.hid (skeys_any (w := w1) (s := s) (Item.go h T1.out.free) hr (by have := hok.many; omega))
  rw [← hn] at HK
  have HW1 := Lib.hid hw1
  have hnb : n ≤ 16777216 := by have := hok.many; omega
  have HNB := Lib.hid hN
  clear h hok hr htot hn hB hw1 hN
  refine callsIn_wide.1 (callsIn_of_wp_marks (n := 9) Tryz.func43 rfl trivial ?_ rfl)
  simp only [Tryz.ntmps43, List.size_toArray, List.length_cons, List.length_nil, Nat.reduceAdd, Nat.reduceSub, Array.replicate_succ, Array.replicate_zero, List.push_toArray, List.append_toArray, List.nil_append, List.cons_append]
  gi_wp2_with fail
  rw [← HW1.out, ← HB.out]
  refine ⟨trivial, ?_⟩
  refine (callsIn_wide.2 HK.out).mono ?_
  rintro e w2 ⟨A, c, rfl, ho, hb⟩
  have t2 := (T1.out.more hb (y := Item.rowT 9 1 (.slice A n c) n (vsKeys s)) (ownsRow_base_a (base' := 0) ho (Nat.zero_le _)) (fun k hk => ownsRow_ge ho hk))
  have t3 := t2.more (y := Item.rowT 51 4 (.slice none 0 0) 0 []) (Below.refl _ _) (World.ownsRow_nil _ _ _ _) (fun k hk => by cases hk)
  have T2 := Lib.hid (show Turn (Item.all []) w (Item.all (vsPcs B n A c (vsKeys s) (.slice none 0 0) [])) w2 from t3.by_ 3 rfl [2, 0, 1] (by decide))
  clear t2 t3
  clear ho hb HK T1
  gi_wp2_with fail
  refine wpIn_loop (fun a' W => ∃ (K : Nat) (ds : List Deferred) (u5 u6 u8 u13 u14 u15 u16 u17 u18 u19 u20 u21 u22 u23 u24 u25 u26 u27 u28 u29 u30 u31 u32 u33 u34 u35 u36 u37 u38 : Value), K ≤ n ∧ a' = { tmps := #[.pointer (some ⟨s.gs, 0, none⟩), undef, .slice none 0 0, .pointer (some ⟨B, 0, none⟩), undef, u5, u6, undef, u8, .pointer (some ⟨s.gs, 0, none⟩), .slice A n c, .int .i64 n, .int .i64 K, u13, u14, u15, u16, u17, u18, u19, u20, u21, u22, u23, u24, u25, u26, u27, u28, u29, u30, u31, u32, u33, u34, u35, u36, u37, u38], defers := ds } ∧ VsM w.heap.size ds W ∧ VsI w s.view B n A c (vsKeys s) K W) (fun a' _ => n - (intOf (a'.tmps.getD 12 undef)).toNat) ?start ?round
  case start => exact ⟨0, [], _, _, _, _, _, _, _, _, _, _, _, _, _, _, _, _, _, _, _, _, _, _, _, _, _, _, _, _, _, Nat.zero_le _, rfl, ⟨fun d hd => (by cases hd), List.Pairwise.nil⟩, [], .slice none 0 0, rfl, T2.out⟩
  case round =>
    rintro a' W ⟨K, ds, u5, u6, u8, u13, u14, u15, u16, u17, u18, u19, u20, u21, u22, u23, u24, u25, u26, u27, u28, u29, u30, u31, u32, u33, u34, u35, u36, u37, u38, hK, rfl, hM, hs, v, hhs, hT⟩
    have HM := Lib.hid hM
    have HHS := Lib.hid hhs
    have HT := Lib.hid hT
    clear hM hhs hT T2
    by_cases hlt : (K : Int) < (n : Int)
    · have hKN : K < s.cs.length := by have := HN.out; omega
      have hKi : K + 1 ≤ n := by omega
      have hrow : (Item.rowT 9 1 (.slice A n c) n (vsKeys s)).P W := HT.out.get (i := 2) rfl
      obtain ⟨bk, hA, hbk, _, _, _, hcell⟩ := rowT_at hrow (by omega)
      subst hA
      have hget := getA_of HOK.out.apart hKN
      have heach := HOK.out.each _ (List.getElem_mem hKN)
      have HVT := Lib.hid (show versF (s.view.take (K + 1)) = versF (s.view.take K) ++ (s.cs[K]).2.vs.map (vnOf (s.cs[K]).1) from by
        have hv : K < s.view.length := by unfold St.view mapA; simpa using hKN
        have e : s.view[K] = ((s.cs[K]).1, (s.cs[K]).2.vs) := by simp only [St.view, mapA, List.getElem_map]
        rw [versF_take hv, e])
      have y0 : W.cell? ⟨bk, K, none⟩ = some (.string ⟨(s.cs[K]).1.toArray⟩) := by
        rw [hcell K (by omega)]; unfold vsKeys; rw [List.getElem?_map, List.getElem?_eq_getElem hKN]; rfl
      obtain ⟨k, hk⟩ : ∃ k, k = (s.cs[K]).1 := ⟨_, rfl⟩
      obtain ⟨ch, hch⟩ : ∃ ch, ch = (s.cs[K]).2 := ⟨_, rfl⟩
      rw [← hk, ← hch] at hget HVT
      rw [← hk] at y0
      rw [← hk, ← hch] at heach
      have hci : (ch.item).P w := by
        have := getA_mem hget
        exact Item.all_get HP.out (show ch.item ∈ s.pieces from by unfold St.pieces; exact List.mem_cons_of_mem _ (List.mem_cons_of_mem _ (List.mem_map.2 ⟨(k, ch), this, rfl⟩)))
      have HGET := Lib.hid hget
      have HEACH := Lib.hid heach
      have HCI := Lib.hid hci
      clear hget heach hci hk hch hrow hcell
      obtain ⟨W1, hW1⟩ : ∃ W1, W1 = W.alloc (.cells #[.string ⟨k.toArray⟩] 9) := ⟨_, rfl⟩
      have HW1' := Lib.hid hW1
      have TX : Turn (Item.all (vsPcs B n (some ⟨bk, 0, none⟩) c (vsKeys s) v hs)) W (Item.all (Item.blk W.heap.size 9 #[.string ⟨k.toArray⟩] :: vsPcs B n (some ⟨bk, 0, none⟩) c (vsKeys s) v hs)) W1 := by
        rw [hW1]; exact (Turn.refl HT.out.p).more ((Below.refl _ _).alloc (Nat.le_refl _) _) (Blk.new _ _ _) (fun k hk => by cases hk; exact Nat.le_refl _)
      have TX1 := Lib.hid TX
      have HS1 := Lib.hid (show s.item.P W1 from Item.go HP.out (HT.out.trans TX).free)
      clear hW1 TX
      gi_wp2_with fail
      rw [← HW1'.out]
      refine ⟨trivial, ?_⟩
      refine (callsIn_wide.2 (sof_any HS1.out (key := ⟨k.toArray⟩) (by have := HEACH.out.1; unfold maxLen; simp [ByteArray.size]; omega))).mono ?_
      rintro e W1' ⟨rfl, rfl⟩
      rw [show getA (⟨k.toArray⟩ : ByteArray).data.toList s.cs = some ch from HGET.out]
      obtain ⟨W2, hW2⟩ : ∃ W2, W2 = W1.alloc (.cells #[.pointer (some ⟨ch.g, 0, none⟩)] 137) := ⟨_, rfl⟩
      have hb2 : Below W1.heap.size W1 W2 := by rw [hW2]; exact (Below.refl _ _).alloc (Nat.le_refl _) _
      have hbw2 := ((HT.out.trans TX1.out).go hb2).free
      have hc2 : ch.item.P W2 := Item.go HCI.out hbw2
      have HC2 := Lib.hid hc2
      obtain ⟨Ac, cc, hrw, _, hrd⟩ := own_slice (show W2.ownsRow 0 135 3 ch.row ch.ls.length (lkCells ch.ls) from Ch.rowP hc2)
      have HCOL := Lib.hid (collect_any (w := W2) (bx := W1.heap.size) (g := ch.g) (c := cc) (A := Ac) (ls := ch.ls) (by have := HEACH.out.2.2.1; have := HNB.out; omega) (by rw [hW2]; exact (Blk.new W1 _ _).cell 0) (by rw [← hrw]; exact (Ch.blk hc2).cell 0) hrd)
      have HB2 := Lib.hid hb2
      have HW2 := Lib.hid hW2
      clear hW2 hb2 hbw2 hc2 hrw hrd
      gi_wp2_with fail
      refine ⟨trivial, ?_⟩
      refine (callsIn_wide.2 (chAll_any (w := W1) (v := some ch.g))).mono ?_
      rintro e W2' ⟨rfl, rfl⟩
      gi_wp2_with fail
      refine ⟨trivial, ?_⟩
      rw [show W1.alloc (.cells #[ptrG (some ch.g)] 137) = W2 from HW2.out.symm]
      refine (callsIn_wide.2 HCOL.out).mono ?_
      rintro e W3 ⟨A3, c3, rfl, ho3, hb3⟩
      obtain ⟨L, hL⟩ : ∃ L, L = ch.ls.length := ⟨_, rfl⟩
      have HL := Lib.hid hL
      rw [← hL] at ho3 ⊢
      have HO3 := Lib.hid ho3
      have HB3 := Lib.hid hb3
      clear ho3 hb3 hL HCOL
      gi_wp2_with fail
      refine ⟨trivial, ?_⟩
      refine (callsIn_wide.2 (backward_any (w := W3))).mono ?_
      rintro e W4 ⟨rfl, hW4⟩
      have HB4 := Lib.hid (show Below W3.heap.size W3 W4 from by rw [hW4]; exact (Below.refl _ _).alloc (Nat.le_refl _) _)
      have K4 := Lib.hid (show Blk W4 W3.heap.size 183 #[.slice A3 L c3] from by rw [hW4]; exact Blk.new _ _ _)
      have HM0 : W2.heap.size ≤ W3.heap.size := HB3.out.size
      have HSEQ := back_seq (w0 := W4) (n := 8) (bx := W3.heap.size) (m₀ := W2.heap.size) (c := c3) (A := A3) (ls := ch.ls.reverse) (by decide) (by rw [List.length_reverse]; have := HEACH.out.2.2.1; have := HNB.out; omega) (by rw [List.length_reverse, ← HL.out]; have ho := HO3.out; rw [HL.out, ← List.length_reverse] at ho; have := (lkRow_of ho).2; rw [List.length_reverse, ← HL.out] at this; exact this) ⟨HM0, K4.out.lt⟩ (by rw [List.length_reverse, ← HL.out]; exact K4.out.cell 0) (by
        have ho := HO3.out
        rw [HL.out, ← List.length_reverse] at ho
        intro h
        obtain ⟨b, off, e, h1, h2, h3⟩ := (lkRow_of ho).1 h
        exact ⟨b, off, e, h1, Nat.lt_of_lt_of_le h2 HB4.out.size, fun j u hu => (HB4.out.cell (p := ⟨b, off + j, none⟩) h2).trans (h3 j u hu)⟩)
      obtain ⟨G, hG⟩ : ∃ G, G = W.heap.size := ⟨_, rfl⟩
      have TX4 := Lib.hid (((TX1.out.go HB2.out).go HB3.out).go HB4.out)
      have HX := Lib.hid (fun j (hk : (Item.all (Item.blk W.heap.size 9 #[.string ⟨k.toArray⟩] :: vsPcs B n (some ⟨bk, 0, none⟩) c (vsKeys s) v hs)).own j) => Nat.lt_of_lt_of_le (Item.lt _ TX1.out.p hk) HB2.out.size)
      rw [← hG] at TX4 HX ⊢
      have HG := Lib.hid hG
      clear hW4 hG HM0 HB2 HB3 HB4 K4 HO3 TX1 HS1
      gi_wp2_with fail
      refine range_bk (p := 23) (q := 24) (s := 8) (F := Fence.wide) (n := 9) rfl (by decide) rfl trivial (fun caps w => callFunc_enter 160 Tryz.f160 _ Tryz.func160 rfl (by kernel_rfl) caps w) HSEQ
        (fun pre V => ∃ (hs' : List Hv) (v' : Value), hs'.map Hv.x = hs.map Hv.x ++ pre.map (fun b => vnOf k b.l.x) ∧ Turn (Item.all (Item.blk G 9 #[.string ⟨k.toArray⟩] :: vsPcs B n (some ⟨bk, 0, none⟩) c (vsKeys s) v hs)) W4 (Item.all (Item.blk G 9 #[.string ⟨k.toArray⟩] :: vsPcs B n (some ⟨bk, 0, none⟩) c (vsKeys s) v' hs')) V) (fun _ _ _ => False) ?hI ?hIx ?h0 ?hassign ?hbody ?hdone ?hstop
      case hI =>
        rintro pre V V' row ⟨hs', v', he, t⟩ hg hr
        exact ⟨hs', v', he, t.kept (solid_all solid_hvk) hg hr⟩
      case hIx => rintro c pre V V' row h; exact h.elim
      case hstop => rintro D cc pre V hD hpre h; exact h.elim
      case h0 => exact ⟨hs, v, by simp, Turn.refl TX4.out.p⟩
      case hassign =>
        rintro l' ⟨i, ⟨⟨st, v, dd⟩, Av, cv⟩⟩ W' K hK
        simp only [bkFrame, Lk.agg, Lk.obj, List.setIfInBounds_toArray, List.set_cons_zero, List.set_cons_succ] at hK ⊢
        gi_wp2
        exact hK
      case hdone =>
        rintro D xs W' hD rfl ⟨hs', v', he, t⟩ hDD
        have hM2 : VsM w.heap.size ({ target := .collected D, args := #[] } :: ds) W' := by
          have hkf : KeepsFrom w.heap.size W W' := (TX4.out.trans t).keepsFrom HT.out.p (solid_all solid_hv)
          have h1 := HM.out.keep hkf (Nat.le_refl _)
          refine ⟨fun d hd => ?_, List.pairwise_cons.2 ⟨fun d hd e => ?_, h1.p⟩⟩
          · rcases List.mem_cons.1 hd with rfl | hd
            · exact ⟨D, rfl, Nat.le_trans (HT.out.trans TX4.out).k.size hD, hDD⟩
            · exact h1.a d hd
          · obtain ⟨D', rfl, _, h2⟩ := HM.out.a d hd
            have h3 := (Array.getElem?_eq_some_iff.1 h2).1
            have h4 := TX4.out.k.size
            injection e with e1 _
            injection e1 with e1
            omega
        have hI2 : VsI w s.view B n (some ⟨bk, 0, none⟩) c (vsKeys s) (K + 1) W' := by
          refine ⟨hs', v', ?_, ((HT.out.trans TX4.out).trans t).drop⟩
          rw [he, HHS.out, HVT.out]
          congr 1
          rw [show (fun b : Bk => vnOf k b.l.x) = (fun l : Lk => vnOf k l.x) ∘ Bk.l from rfl, ← List.map_map, backL_links, List.reverse_reverse]
          unfold Ch.vs
          rw [List.map_map]; rfl
        have HM2 := Lib.hid hM2
        have HI2 := Lib.hid hI2
        clear he t hDD hM2 hI2
        gi_wp2
        exact ⟨⟨K + 1, _, _, _, _, _, _, _, _, _, _, _, _, _, _, _, _, _, _, _, _, _, _, _, _, _, _, _, _, _, _, hKi, rfl, HM2.out, HI2.out⟩, by simp [intOf]; omega⟩
      case hbody =>
        rintro l' kk pre ⟨i, ⟨⟨st, vv, dd⟩, Av, cv⟩⟩ W' hkk _ _ ⟨V, j, o, o', ⟨hs', v', he, t⟩, rfl, hj, ho, hoc, rfl⟩ _ hrd
        have t2 := (t.more (y := Item.blk V.heap.size 135 #[.int .i64 st, .slice Av vv.length cv, .bool dd]) ((Below.refl _ _).alloc (Nat.le_refl _) _) (Blk.new V _ _) (fun k hk => by cases hk; exact Nat.le_refl _)).kept (solid_all (fun i hi => by
          rcases List.mem_cons.1 hi with rfl | hi
          · exact solid_blk
          · exact solid_hvk i hi)) (grownBy_putObj' _ j o') (fun r e => by cases e; exact ⟨hj, o, ho, hoc⟩)
        simp only [bkFrame, Lk.agg, List.setIfInBounds_toArray, List.set_cons_zero, List.set_cons_succ]
        have hlm : (⟨⟨st, vv, dd⟩, Av, cv⟩ : Lk) ∈ ch.ls := by
          obtain ⟨r, hr⟩ := hrd
          have h1 := congrArg (List.map Bk.l) hr
          rw [backL_links, List.reverse_reverse] at h1
          rw [← h1]; simp
        have hlen : hs'.length + 1 ≤ 1099511627776 := by
          have h1 := congrArg List.length he
          obtain ⟨r, hr⟩ := hrd
          have h2 := congrArg List.length hr
          have h3 := congrArg List.length HVT.out
          have h4 := congrArg List.length HHS.out
          have h5 := versF_le s.view (K + 1)
          have h6 := HTOT.out
          simp only [List.length_append, List.length_map, backL_len, List.length_reverse, List.length_cons, List.length_nil, Ch.vs] at h1 h2 h3 h4
          omega
        have t3 : Turn (Item.all (Item.blk G 9 #[.string ⟨k.toArray⟩] :: vsPcs B n (some ⟨bk, 0, none⟩) c (vsKeys s) v hs)) W4 (Item.all (Item.blk B 23 #[v'] :: Item.rowT 51 4 v' hs'.length (hvCells hs') :: (Item.blk G 9 #[.string ⟨k.toArray⟩] :: Item.blk V.heap.size 135 #[.int .i64 st, .slice Av vv.length cv, .bool dd] :: Item.rowT 9 1 (.slice (some ⟨bk, 0, none⟩) n c) n (vsKeys s) :: hvRows hs'))) _ := t2.permR ((perm_by (P := [_, _, _, _, _]) 5 rfl [2, 3, 1, 0, 4] (by decide)).append_right (hvRows hs'))
        have HT3 := Lib.hid t3
        have HE := Lib.hid he
        have HLM := Lib.hid hlm
        have TF := Lib.hid ((HT.out.trans TX4.out).trans t3)
        have TS := Lib.hid (Turn.refl t3.p)
        clear t t2 t3 he hlm hrd
        gi_upto_region 8 with fail
        refine vers_region (g3 := B) (g5 := G) (g8 := V.heap.size) (n := hs'.length) (vold := v') (xs := hvCells hs') (key := ⟨k.toArray⟩) (l := ⟨⟨st, vv, dd⟩, Av, cv⟩)
          (M := Item.blk G 9 #[.string ⟨k.toArray⟩] :: Item.blk V.heap.size 135 #[.int .i64 st, .slice Av vv.length cv, .bool dd] :: Item.rowT 9 1 (.slice (some ⟨bk, 0, none⟩) n c) n (vsKeys s) :: hvRows hs') rfl rfl rfl rfl (by simp) (by simp) trivial rfl ?hown (by omega) TS.out ?hk
        case hown =>
          intro P w' tt
          have hci : ch.item.P w' := Item.go HCI.out (TF.out.trans tt).free
          have hl : BOwns w' 0 (.slice Av vv.length cv) vv := Ch.lk hci HLM.out
          refine CallsIn.inRound l' (callsIn_wide.2 ((stown_any (c := cv) hl.reads (by have := HEACH.out.2.2.2 _ HLM.out; simp only at this; omega)).mono ?_))
          rintro e w'' ⟨v2, rfl, ho2, hb2⟩
          obtain ⟨A2, c2, rfl, _, _⟩ := BOwns.slice ho2
          exact ⟨A2, c2, rfl, ho2, hb2⟩
        case hk =>
          intro a w' A2 c2 A' c' hfr tt
          refine ⟨tt.keepsFrom HT3.out.p (solid_all ?_), ⟨tt.k.size, fun q h1 h2 => tt.k.block q (Nat.lt_of_lt_of_le h2 HT3.out.k.size) fun ho => ?_⟩, hs' ++ [⟨vnOf k ⟨st, vv, dd⟩, A2, c2⟩], .slice A' (hs'.length + 1) c', ?_, ?_⟩
          · intro i hi
            simp only [List.mem_cons] at hi
            rcases hi with rfl | rfl | rfl | rfl | rfl | hi
            · exact solid_blk
            · exact solid_rowT
            · exact solid_blk
            · exact solid_blk
            · exact solid_rowT
            · obtain ⟨t, _, rfl⟩ := List.mem_map.1 hi
              exact solid_row
          · rcases HT3.out.o q ho with h | h
            · have := HX.out q h; omega
            · omega
          · rw [List.map_append, HE.out, List.map_append, List.append_assoc]; rfl
          · have t5 := (HT3.out.trans tt).permR ((perm_by (P := [_, _, _, _, _, _]) 6 rfl [4, 3, 0, 1, 5, 2] (by decide)).append_right (hvRows hs'))
            have t6 := t5.drop
            unfold vsPcs
            rw [List.length_append, hvCells_snoc, hvRows_snoc]
            exact t6.permR (((((List.perm_append_singleton _ _).symm.cons _).cons _).cons _).cons _)
    · obtain rfl : K = n := by omega
      obtain ⟨A', c', hv', _, _⟩ := own_slice (show W.ownsRow 0 51 4 v hs.length (hvCells hs) from HT.out.get (i := 1) rfl)
      subst hv'
      have y3 := (show Blk W B 23 #[.slice A' hs.length c'] from HT.out.get (i := 0) rfl).cell 0
      simp at y3
      gi_wp2
      refine marks_all (b := w.heap.size) (v := .slice A' hs.length c') (fun w' => Turn (Item.all []) w (Item.all (vsPcs B K A c (vsKeys s) (.slice A' hs.length c') hs)) w') (fun w' D h h1 h2 => h.kept (solid_all solid_hv) (grownBy_putObj' w' D (.deferred none)) fun r e => (by cases e; exact ⟨h1, _, h2, rfl⟩)) (fun w' => by simp [results, Tryz.results43]) (fun w' h => ?_) HM.out HT.out
      refine ⟨hs, A', c', ?_, rfl, h.sub (List.Sublist.cons _ (List.Sublist.cons_cons _ (List.Sublist.cons _ (List.Sublist.refl _))))⟩
      rw [HHS.out, List.take_of_length_le (by unfold St.view mapA; rw [List.length_map]; have := HN.out; omega)]
end Go.Proofs.YtmnpchncmbnddaaGreat
/- XCpy1.lean.tpl: a law's copies of versions: its region (printed by gencopies.py), its contract. -/
namespace Go.Proofs.YtmnpchncmbnddaaGreat
open Go.RowKit

section
variable {x0 : Item} {w0 w : World} {M : List Item} {n : Nat} {vold : Value} {xs : List Value} {x : Vn} {a : Act}
end
end Go.Proofs.YtmnpchncmbnddaaGreat
/- A law's copies of versions, by contract. -/
namespace Go.Proofs.YtmnpchncmbnddaaGreat
open Go.RowKit

end Go.Proofs.YtmnpchncmbnddaaGreat
/- Laws of layer 19: are two lists alike; the reference's Entries. -/
namespace Go.Proofs.YtmnpchncmbnddaaGreat
open Go.RowKit

end Go.Proofs.YtmnpchncmbnddaaGreat
/- Rows whose elements hold slices of bytes of their own: bytes written, bytes appended. -/
namespace Go.Proofs.YtmnpchncmbnddaaGreat
open Go.RowKit

/-- A slice of bytes of one's own. -/
structure Rb where
  A : Option Addr
  c : Nat
  l : List UInt8
def Rb.v (b : Rb) : Value := .slice b.A b.l.length b.c
def Rb.item (b : Rb) : Item := Item.row b.v b.l
/-- Element i of the row holds the i-th slice. -/
structure RbOk (s o n : Nat) (xs : List Value) (bs : List Rb) : Prop where
  x : xs.length = n * s
  b : bs.length = n
  e : ∀ (i : Nat) (b : Rb), bs[i]? = some b → xs[i * s + o]? = some b.v
  o : o < s
section
variable {w w' : World} {e : TypeId} {s o n c : Nat} {A : Option Addr} {xs : List Value} {bs : List Rb} {b : Rb} {i : Nat}
end
theorem hv_sl {w : World} {A : Option Addr} {c n : Nat} {ts : List Hv} (h : (Item.all (Item.rowT 51 4 (.slice A n c) n (hvCells ts) :: hvRows ts)).P w) (hn : n = ts.length) (hi : ∀ e ∈ ts.map Hv.x, e.ints) : kVn.Sl w w.heap.size A (ts.map Hv.x) :=
  slv_of_row (Item.all_get h (List.mem_cons_self ..)) hn (fun k hk => Item.lt _ (Item.all_get h (List.mem_cons_self ..)) hk) (fun t ht => by
    have ho : BOwns w 0 (.slice t.A t.x.value.length t.c) t.x.value := Item.all_get h (x := Item.row (.slice t.A t.x.value.length t.c) t.x.value) (List.mem_cons_of_mem _ (List.mem_map.2 ⟨t, ht, rfl⟩))
    obtain ⟨A1, c1, e, hc, hv⟩ := BOwns.slice ho
    injection e with e1 _ e2
    subst e1; subst e2
    exact ⟨hi _ (List.mem_map.2 ⟨t, ht, rfl⟩), hv, hc⟩)
end Go.Proofs.YtmnpchncmbnddaaGreat
