/- Contracts and plain laws that this claim leans on, laid together: Mem, Range, Sum1, Sum2, Rdr6. -/
import Derived.Test.YtmnpchncmbnddaaGreatG02
import Derived.RangeFuncWrites
import Derived.RangeFuncBox
import Derived.RangeFuncNested
import Derived.RangeFuncBound
import Derived.RangeFuncCalls
import Derived.RangeFuncLeaves
import Derived.Shelf.Abstract
import Derived.Shelf.RegionOpen
import Derived.OwnWalkIn
import Derived.TacticsInMore
import Derived.LoopNIn
import Derived.LoopIn
import Derived.Laws.BitsAllLaws
import Derived.Deep.Cut
import Derived.Deep.LoopGhost
set_option linter.all false
set_option linter.unusedVariables false
set_option linter.unusedSimpArgs false
set_option linter.unnecessarySimpa false
/- Pieces of memory that lie apart: blocks, rows of bytes, and what is made of them. -/
namespace Go.Proofs.YtmnpchncmbnddaaGreat
open Go.RowKit

/-- A piece of memory: its blocks, and what they hold. -/
structure Item where
  own : Nat → Prop
  P : World → Prop
  keep : ∀ {w w' : World}, P w → (∀ k, own k → w'.heap[k]? = w.heap[k]?) → P w'
  lt : ∀ {w : World} {k : Nat}, P w → own k → k < w.heap.size
def Item.blk (g : Nat) (t : TypeId) (cs : Array Value) : Item where
  own := fun k => k = g
  P := fun w => Blk w g t cs
  keep := fun h hk => (hk g rfl).trans h
  lt := fun h e => by subst e; exact Blk.lt h
def Item.row (v : Value) (l : List UInt8) : Item where
  own := fun k => v.ownBlock = some k
  P := fun w => BOwns w 0 v l
  keep := fun {w w'} h hk => by
    refine ⟨h.1, ?_⟩
    rcases h.2 with h2 | ⟨g, cap, cur, hv, hb, hh, r⟩
    · exact .inl h2
    · exact .inr ⟨g, cap, cur, hv, hb, (hk g (by rw [hv]; rfl)).trans hh, r⟩
  lt := fun h e => (h.lt e).2
/-- Pieces that lie apart. -/
def Item.all (L : List Item) : Item where
  own := fun k => ∃ i ∈ L, i.own k
  P := fun w => (∀ i ∈ L, i.P w) ∧ L.Pairwise fun (a b : Item) => ∀ k : Nat, a.own k → ¬ b.own k
  keep := fun h hk => ⟨fun i hi => i.keep (h.1 i hi) fun k ho => hk k ⟨i, hi, ho⟩, h.2⟩
  lt := fun h ⟨i, hi, ho⟩ => i.lt (h.1 i hi) ho
theorem Item.go {x : Item} {w w' : World} (h : x.P w) (hb : Below w.heap.size w w') : x.P w' := x.keep h fun k hk => hb.block k (x.lt h hk)
theorem Item.far {x : Item} {w w' : World} {S : Nat → Prop} (h : x.P w) (hk : Keeps S w w') (hs : ∀ k, x.own k → ¬ S k) : x.P w' := x.keep h fun k ho => hk.block k (x.lt h ho) (hs k ho)
/-- A piece has become another one; nothing else was written. -/
structure Turn (x : Item) (w : World) (y : Item) (w' : World) : Prop where
  p : y.P w'
  k : Keeps x.own w w'
  o : ∀ k, y.own k → x.own k ∨ w.heap.size ≤ k
section
variable {x y z a b : Item} {w w' w'' : World} {L M : List Item}
theorem Turn.refl (h : x.P w) : Turn x w x w := ⟨h, Keeps.refl _ _, fun _ h => .inl h⟩
theorem Turn.trans (h : Turn x w y w') (h' : Turn y w' z w'') : Turn x w z w'' :=
  ⟨h'.p, h.k.trans h'.k (fun i hi => h.o i hi), fun k hk => by
    rcases h'.o k hk with h1 | h1
    · exact h.o k h1
    · exact .inr (Nat.le_trans h.k.size h1)⟩
theorem Turn.go (h : Turn x w y w') (hb : Below w'.heap.size w' w'') : Turn x w y w'' :=
  ⟨Item.go h.p hb, h.k.trans (Keeps.of_below hb (fun _ => False)) (fun _ h => h.elim), h.o⟩
theorem Turn.pre (hb : Below w.heap.size w w') (h : Turn x w' y w'') : Turn x w y w'' :=
  ⟨h.p, (Keeps.of_below hb x.own).trans h.k (fun i hi => .inl hi), fun k hk => by
    rcases h.o k hk with h1 | h1
    · exact .inl h1
    · exact .inr (Nat.le_trans hb.size h1)⟩
theorem Turn.below {B : Nat} (h : Turn x w y w') (hB : B ≤ w.heap.size) (ho : ∀ k, x.own k → B ≤ k) : Below B w w' := h.k.below hB ho
theorem Item.all_get (h : (Item.all L).P w) (hx : x ∈ L) : x.P w := h.1 x hx
theorem Item.all_perm (h : (Item.all L).P w) (hp : L.Perm M) : (Item.all M).P w :=
  ⟨fun i hi => h.1 i (hp.mem_iff.2 hi), hp.pairwise h.2 (fun {a b} hab k hb ha => hab k ha hb)⟩
/-- A piece more, all of it new. -/
theorem Item.all_add (h : (Item.all L).P w) (hb : Below w.heap.size w w') (hy : y.P w') (ho : ∀ k, y.own k → w.heap.size ≤ k) : (Item.all (y :: L)).P w' :=
  ⟨fun i hi => by
    rcases List.mem_cons.1 hi with rfl | hi
    · exact hy
    · exact Item.go (h.1 i hi) hb, List.pairwise_cons.2 ⟨fun i hi k h1 h2 => by have := ho k h1; have := i.lt (h.1 i hi) h2; omega, h.2⟩⟩
/-- The first of the pieces has become another one. -/
theorem Item.all_head (h : (Item.all (x :: L)).P w) (t : Turn x w y w') : (Item.all (y :: L)).P w' := by
  have h1 := List.pairwise_cons.1 h.2
  have hx : ∀ i ∈ L, i.P w := fun i hi => h.1 i (List.mem_cons_of_mem _ hi)
  refine ⟨fun i hi => ?_, List.pairwise_cons.2 ⟨fun i hi k hk hk2 => ?_, h1.2⟩⟩
  · rcases List.mem_cons.1 hi with rfl | hi
    · exact t.p
    · exact Item.far (hx i hi) t.k fun k hk hk2 => h1.1 i hi k hk2 hk
  · rcases t.o k hk with h2 | h2
    · exact h1.1 i hi k h2 hk2
    · have := i.lt (hx i hi) hk2; omega
theorem Turn.head (h : (Item.all (x :: L)).P w) (t : Turn x w y w') : Turn (Item.all (x :: L)) w (Item.all (y :: L)) w' :=
  ⟨Item.all_head h t, t.k.mono (fun i hi => .inl ⟨x, List.mem_cons_self .., hi⟩), fun k ⟨i, hi, hk⟩ => by
    rcases List.mem_cons.1 hi with rfl | hi
    · rcases t.o k hk with h1 | h1
      · exact .inl ⟨x, List.mem_cons_self .., h1⟩
      · exact .inr h1
    · exact .inl ⟨i, List.mem_cons_of_mem _ hi, hk⟩⟩
theorem Turn.second (h : (Item.all (a :: x :: L)).P w) (t : Turn x w y w') : Turn (Item.all (a :: x :: L)) w (Item.all (a :: y :: L)) w' := by
  have hp := Item.all_perm h (List.Perm.swap x a L)
  have t1 := Turn.head hp t
  exact ⟨Item.all_perm t1.p (List.Perm.swap a y L), t1.k.mono (fun i ⟨j, hj, hk⟩ => .inl ⟨j, (List.Perm.swap x a L).mem_iff.2 hj, hk⟩), fun k ⟨i, hi, hk⟩ => by
    rcases t1.o k ⟨i, (List.Perm.swap a y L).mem_iff.2 hi, hk⟩ with ⟨j, hj, h2⟩ | h2
    · exact .inl ⟨j, (List.Perm.swap x a L).mem_iff.2 hj, h2⟩
    · exact .inr h2⟩
theorem Turn.new (h : (Item.all L).P w) (hb : Below w.heap.size w w') (hy : y.P w') (ho : ∀ k, y.own k → w.heap.size ≤ k) : Turn (Item.all L) w (Item.all (y :: L)) w' :=
  ⟨Item.all_add h hb hy ho, Keeps.of_below hb _, fun k ⟨i, hi, hk⟩ => by
    rcases List.mem_cons.1 hi with rfl | hi
    · exact .inr (ho k hk)
    · exact .inl ⟨i, hi, hk⟩⟩
theorem Turn.drop (h : Turn x w (Item.all (y :: L)) w') : Turn x w (Item.all L) w' :=
  ⟨⟨fun i hi => h.p.1 i (List.mem_cons_of_mem _ hi), (List.pairwise_cons.1 h.p.2).2⟩, h.k, fun k ⟨i, hi, hk⟩ => h.o k ⟨i, List.mem_cons_of_mem _ hi, hk⟩⟩
/-- The same with the pieces in another order. -/
theorem Turn.perm (h : Turn (Item.all L) w y w') (hp : L.Perm M) : Turn (Item.all M) w y w' :=
  ⟨h.p, h.k.mono (fun i ⟨j, hj, hk⟩ => .inl ⟨j, hp.mem_iff.1 hj, hk⟩), fun k hk => by
    rcases h.o k hk with ⟨j, hj, h2⟩ | h2
    · exact .inl ⟨j, hp.mem_iff.1 hj, h2⟩
    · exact .inr h2⟩
theorem Turn.permR (h : Turn x w (Item.all L) w') (hp : L.Perm M) : Turn x w (Item.all M) w' :=
  ⟨Item.all_perm h.p hp, h.k, fun k ⟨j, hj, hk⟩ => h.o k ⟨j, hp.mem_iff.2 hj, hk⟩⟩
/-- One of the pieces has become another one. -/
theorem Turn.set {i : Nat} (h : (Item.all L).P w) (hi : L[i]? = some x) (t : Turn x w y w') : Turn (Item.all L) w (Item.all (L.set i y)) w' := by
  obtain ⟨hlt, he⟩ := List.getElem?_eq_some_iff.1 hi
  have e1 : L = L.take i ++ x :: L.drop (i + 1) := by rw [← he, ← List.drop_eq_getElem_cons hlt, List.take_append_drop]
  have e2 : L.set i y = L.take i ++ y :: L.drop (i + 1) := by rw [List.set_eq_take_append_cons_drop, if_pos hlt]
  rw [e2]
  have p1 : L.Perm (x :: (L.take i ++ L.drop (i + 1))) := by
    have := List.perm_middle (a := x) (l₁ := L.take i) (l₂ := L.drop (i + 1))
    rwa [← e1] at this
  have hp := Item.all_perm h p1
  exact ((Turn.head hp t).perm p1.symm).permR (List.perm_middle (a := y) (l₁ := L.take i) (l₂ := L.drop (i + 1))).symm
theorem Turn.wide (h : Turn x w y w') (hz : z.P w) (ho : ∀ k, x.own k → z.own k) (hy : ∀ k, y.own k → z.own k ∨ w.heap.size ≤ k) : Turn z w y w' :=
  ⟨h.p, h.k.mono (fun i hi => .inl (ho i hi)), hy⟩
/-- A cell of a block is written. -/
theorem Turn.cell {g : Nat} {t : TypeId} {cs : Array Value} (h : Blk w g t cs) (i : Nat) (u : Value) : Turn (Item.blk g t cs) w (Item.blk g t (cs.setIfInBounds i u)) (w.setCell ⟨g, i, none⟩ u) :=
  ⟨h.set_ i u, (Keeps.refl (fun k => k = g) w).setCell (p := ⟨g, i, none⟩) (.inl rfl) u, fun k hk => .inl hk⟩
/-- A row of bytes has become another one. -/
theorem Turn.row {v v' : Value} {l l' : List UInt8} {base : Nat} (ho : BOwns w' base v' l') (hk : Keeps (fun k => some k = v.ownBlock) w w') (hf : v'.ownBlock = v.ownBlock ∨ ∀ k, v'.ownBlock = some k → w.heap.size ≤ k) :
    Turn (Item.row v l) w (Item.row v' l') w' :=
  ⟨owns_less ho (Nat.zero_le _), hk.mono (fun i hi => .inl hi.symm), fun k hk => by
    rcases hf with h | h
    · exact .inl (h.symm.trans hk)
    · exact .inr (h k hk)⟩
end
end Go.Proofs.YtmnpchncmbnddaaGreat
/- A range over a function whose rounds may rely on what they are handed: Rd pre x W says what the round knows of x and of what came ahead. -/
namespace Go.Proofs.YtmnpchncmbnddaaGreat
open Go.RowKit

section
variable {α : Type} {F : Fence} {n : Nat} {P : Program}
/-- The iterator's contract: at every call of yield it has shown Rd. -/
def SeqRd (F : Fence) (n : Nat) (P : Program) (gf : Nat) (lb : Array Value) (encs : α → Array Value) (Kp : World → World → Prop) (Rd : List α → α → World → Prop) (S Sp : List α → Prop) (w : World) : Prop :=
  ∀ (l : Nat) (J Jx : List α → World → Prop) (W : World), Below w.heap.size w W → AbidesFrom W.heap.size J → AbidesFrom W.heap.size Jx →
    (∀ pre x V, J pre V → Rd pre x V → YieldAt F (n - 1) P l (encs x) V fun e V' => (e = .returned (.bool true) ∧ J (pre ++ [x]) V' ∧ Kp V V') ∨ (e = .returned (.bool false) ∧ Jx (pre ++ [x]) V')) →
    J [] W → CallsIn F n P gf (#[.func (.yield l) #[] #[]] ++ lb) W fun e V => (∃ v, e = .returned v) ∧ ((∃ xs, S xs ∧ J xs V) ∨ (∃ pre, Sp pre ∧ Jx pre V))

variable {g : Operand} {ps : Array Tmp} {assign body : Code} {Q : Exit → Act → World → Prop} {a : Act} {w : World}
theorem range_rd (hro : F.round = none) (h1 : 1 ≤ n) {gf : Nat} {lb : Array Value} (hg : a.eval g = .func (.func gf) #[] lb) (hF : F.fn gf) (eg : ∀ args w, (callFunc gf args).run P w = .ok (.enter gf args) w)
    {encs : α → Array Value} {Kp : World → World → Prop} {Rd : List α → α → World → Prop} {S Sp : List α → Prop} {w0 : World} (hseq : SeqRd F (n - 1) P gf lb encs Kp Rd S Sp w0)
    (hKt : ∀ {A B C : World}, Kp A B → Kp B C → Kp A C) (hKb : ∀ (W : World) (l : Nat) (o o' : Obj), w.heap.size ≤ l → W.heap[l]? = some o → o.isCells = false → o.isWalk = false → Kp W (W.putObj l o'))
    (hRd : ∀ pre, Go.OwnFrom w.heap.size (Rd pre)) (hb0 : Below w0.heap.size w0 w) (hps : ∀ x, (encs x).size = ps.size)
    (I : List α → World → Prop) (Ix : Code → List α → World → Prop) (hI : Go.OwnFrom w.heap.size I) (hIx : ∀ c, Go.OwnFrom w.heap.size (Ix c)) (h0 : I [] w) (a₁ : α → Act)
    (hassign : ∀ (l : Nat) (x : α) (W : World) (K : Act → World → Prop), K (a₁ x) W →
      assign.wpIn (F.inRound l) (n - 1 - 1) P (Exit.then K (fun _ _ _ => False)) { tmps := (ps.zip (encs x)).foldl (fun t (p, v) => t.setIfInBounds p v) a.tmps, defers := [] } W)
    (hbody : ∀ (l : Nat) (pre : List α) (x : α) (W : World), I pre W → Rd pre x W → body.wpIn (F.inRound l) (n - 1 - 1) P (ownPostG w.heap.size Kp I Ix (pre ++ [x]) W) (a₁ x) W)
    (hdone : ∀ (D : Nat) (xs : List α) (W : World), w.heap.size ≤ D → S xs → I xs W → W.heap[D]? = some (.deferred (some [])) → Q .normal { a with defers := { target := .collected D, args := #[] } :: a.defers } W)
    (hstop : ∀ (D : Nat) (c : Code) (pre : List α) (W : World), w.heap.size ≤ D → Sp pre → Ix c pre W → W.heap[D]? = some (.deferred (some [])) → c.wpIn F n P Q { a with defers := { target := .collected D, args := #[] } :: a.defers } W) :
    (Code.rangeFunc g ps assign body).wpIn F n P Q a w := by
  refine wpIn_rangeFunc fun fn hfn => ?_
  rw [hro]
  let rec_ : LoopState → Option Code → Loop := fun st pe => { state := st, pending := pe, fn, tmps := a.tmps, params := ps, assign, body, defers := w.heap.size }
  let W1 := (w.alloc (.deferred (some []))).alloc (.loop (rec_ .ready none))
  have hsz : W1.heap.size = w.heap.size + 2 := by simp [W1]
  have hL1 : W1.heap[w.heap.size + 1]? = some (.loop (rec_ .ready none)) := by
    have := World.alloc_heap_new (w.alloc (.deferred (some []))) (.loop (rec_ .ready none))
    rwa [World.size_alloc] at this
  have hK1 : W1.heap[w.heap.size]? = some (.deferred (some [])) := (Below.heap_alloc _ _ _ (by simp)).trans (World.alloc_heap_new w _)
  have hI1 : I [] W1 := hI.alloc _ (hI.alloc _ h0)
  have hb1 : Below w0.heap.size w0 W1 := hb0.trans ((((Below.refl _ w).alloc (Nat.le_refl _) _).alloc (by simp) _).mono hb0.size)
  -- what the loop itself keeps: its record, its mark
  let BK : LoopState → Option Code → World → Prop := fun st pe W => W.heap[w.heap.size + 1]? = some (.loop (rec_ st pe)) ∧ W.heap[w.heap.size]? = some (.deferred (some []))
  have hBK : ∀ {st pe A B row}, BK st pe A → A.grownBy B row → (∀ r, row = some r → W1.heap.size ≤ r ∧ ∃ o : Obj, A.heap[r]? = some o ∧ o.isWalk = true) → BK st pe B := by
    intro st pe A B row h hg' hr
    have hr' : ∀ r, row = some r → ∃ o : Obj, A.heap[r]? = some o ∧ o.isWalk = true := fun r e => (hr r e).2
    exact ⟨(grownBy_keeps hg' hr' h.1 rfl).trans h.1, (grownBy_keeps hg' hr' h.2 rfl).trans h.2⟩
  have hnw : ∀ {A : World} {row : Option Nat}, (∀ r, row = some r → W1.heap.size ≤ r ∧ ∃ o : Obj, A.heap[r]? = some o ∧ o.isWalk = true) → (∀ r, row = some r → w.heap.size ≤ r ∧ ∃ o : Obj, A.heap[r]? = some o ∧ o.isCells = false) :=
    fun hr r e => by obtain ⟨hB, o, ho, hw⟩ := hr r e; exact ⟨by omega, o, ho, Obj.not_cells_of_walk hw⟩
  refine ⟨w.heap.size + 1, [{ target := .collected w.heap.size, args := #[] }], W1, { target := .fn (.func gf) lb, args := #[.func (.yield (w.heap.size + 1)) #[] #[]] }, W1, gf,
    #[.func (.yield (w.heap.size + 1)) #[] #[]] ++ lb, W1, run_enterLoop_outer _ _ _ _ _, ?_, ?_, ?_, fun _ => h1, ?_⟩
  · simp only [resolve, hg]
    simp [go_sem]
  · intro f' hf'
    simp [Target.leads] at hf'
    subst hf'; exact hF
  · simp [invoke, go_sem, eg]
  refine (hseq (w.heap.size + 1) (fun pre W => I pre W ∧ BK .ready none W) (fun pre W => ∃ c, Ix c pre W ∧ BK .done (some c) W) W1 hb1
    (fun s A B row hs hg' hr => ⟨hI s A B row hs.1 hg' (hnw hr), hBK hs.2 hg' hr⟩)
    (fun s A B row hs hg' hr => by obtain ⟨c, hc, hk⟩ := hs; exact ⟨c, hIx c s A B row hc hg' (hnw hr), hBK hk hg' hr⟩) ?round ⟨hI1, hL1, hK1⟩).mono ?after
  case after =>
    rintro e V ⟨⟨v, rfl⟩, (⟨xs, hS, hi, hl, hk⟩ | ⟨pre, hSp, c, hi, hl, hk⟩)⟩
    · exact ⟨none, _, run_endLoop (P := P) hl (by simp [rec_]), hdone _ xs _ (Nat.le_refl _) hS (hI.putObj _ hi (by omega) hl rfl) ((World.putObj_heap_other (by omega)).trans hk)⟩
    · exact ⟨some c, _, run_endLoop (P := P) hl (by simp [rec_]), hstop _ c pre _ (Nat.le_refl _) hSp ((hIx c).putObj _ hi (by omega) hl rfl) ((World.putObj_heap_other (by omega)).trans hk)⟩
  case round =>
    rintro pre x V ⟨hi, hl, hk⟩ hrd
    have hlt : w.heap.size + 1 < V.heap.size := (Array.getElem?_eq_some_iff.1 hl).1
    refine ⟨fn, _, assign, body, run_yield (P := P) (args := encs x) hl (hps x), roundIn_of_wpIn hfn (hassign _ x V _ ⟨_, run_beginRound hl rfl, ?_⟩)⟩
    let V2 := V.putObj (w.heap.size + 1) (.loop { rec_ .ready none with state := .busy })
    have hl2 : V2.heap[w.heap.size + 1]? = some (.loop { rec_ .ready none with state := .busy }) := World.putObj_heap_same hlt
    have hk2 : V2.heap[w.heap.size]? = some (.deferred (some [])) := (World.putObj_heap_other (by omega)).trans hk
    have hw2 : Kp V V2 := hKb _ _ _ _ (by omega) hl rfl rfl
    have ends : ∀ (jump : Option Code) (V3 : World), KeepsFrom w.heap.size V2 V3 →
        (Instr.endRound (w.heap.size + 1) jump).run P V3 = .ok (.bool jump.isNone) (V3.putObj (w.heap.size + 1) (.loop (rec_ (if jump.isNone then .ready else .done) jump))) ∧
        V3.heap[w.heap.size + 1]? = some (.loop { rec_ .ready none with state := .busy }) ∧ BK (if jump.isNone then .ready else .done) jump (V3.putObj (w.heap.size + 1) (.loop (rec_ (if jump.isNone then .ready else .done) jump))) := by
      intro jump V3 hk3
      have hl3 := hk3.same _ _ (by omega) hl2 rfl
      exact ⟨run_endRound (P := P) jump hl3, hl3, World.putObj_heap_same (Array.getElem?_eq_some_iff.1 hl3).1, (World.putObj_heap_other (by omega)).trans (hk3.same _ _ (Nat.le_refl _) hk2 rfl)⟩
    refine wpIn_mono (hbody _ pre x V2 (hI.putObj _ hi (by omega) hl rfl) ((hRd pre).putObj _ hrd (by omega) hl rfl)) ?_
    have left : ∀ (c : Code) (V3 : World), KeepsFrom w.heap.size V2 V3 → Ix c (pre ++ [x]) V3 →
        ∃ v V4, (Instr.endRound (w.heap.size + 1) (some c)).run P V3 = .ok v V4 ∧ ((Ending.returned v = .returned (.bool true) ∧ (I (pre ++ [x]) V4 ∧ BK .ready none V4) ∧ Kp V V4) ∨ (Ending.returned v = .returned (.bool false) ∧ ∃ c, Ix c (pre ++ [x]) V4 ∧ BK .done (some c) V4)) := by
      intro c V3 hk3 hi3
      obtain ⟨hr, hl3, hb⟩ := ends (some c) V3 hk3
      exact ⟨_, _, hr, .inr ⟨rfl, c, (hIx c).putObj _ hi3 (by omega) hl3 rfl, hb⟩⟩
    rintro e a3 V3 hp
    cases e with
    | normal =>
      obtain ⟨hr, hl3, hb⟩ := ends none V3 hp.1
      exact ⟨_, _, hr, .inl ⟨rfl, ⟨hI.putObj _ hp.2.2 (by omega) hl3 rfl, hb⟩, hKt (hKt hw2 hp.2.1) (hKb _ _ _ _ (by omega) hl3 rfl rfl)⟩⟩
    | ret => exact left .ret V3 hp.1 hp.2
    | exit id => exact left (.exit id) V3 hp.1 hp.2
    | goto t => exact left (.goto t) V3 hp.1 hp.2
    | panic ch => exact hp.elim
    | outgrown => exact hp.elim
end
end Go.Proofs.YtmnpchncmbnddaaGreat
/- The sum of bytes, by contract: steps, More, Of. -/
namespace Go.Proofs.YtmnpchncmbnddaaGreat
open Go.RowKit

/-- One step of the register, and so many of them. -/
def stepF (r : Nat) : Nat := if r % 2 = 1 then (r / 2) ^^^ 3988292384 else r / 2
def stepsF : Nat → Nat → Nat
  | 0, r => r
  | m + 1, r => stepF (stepsF m r)
theorem stepF_lt {r : Nat} (h : r < 4294967296) : stepF r < 4294967296 := by
  unfold stepF
  split
  · exact Nat.xor_lt_two_pow (n := 32) (by omega) (by omega)
  · omega
theorem stepsF_lt {r : Nat} (h : r < 4294967296) (m : Nat) : stepsF m r < 4294967296 := by
  induction m with
  | zero => exact h
  | succ m ih => exact stepF_lt ih
def tabF (i : Nat) : Nat := stepsF 4 i
/-- The table, filled up to a place. -/
def tabV (K : Nat) : Array Value := ((List.range 16).map fun j => Value.int .u32 ((if j < K then tabF j else 0 : Nat) : Int)).toArray
theorem tabV_zero : tabV 0 = #[.int .u32 0, .int .u32 0, .int .u32 0, .int .u32 0, .int .u32 0, .int .u32 0, .int .u32 0, .int .u32 0, .int .u32 0, .int .u32 0, .int .u32 0, .int .u32 0, .int .u32 0, .int .u32 0, .int .u32 0, .int .u32 0] := rfl
theorem tabN : (List.range 16).map tabF = [0, 498536548, 997073096, 651767980, 1994146192, 1802195444, 1303535960, 1342533948, 3988292384, 4027552580, 3604390888, 3412177804, 2607071920, 2262029012, 2685067896, 3183342108] := by decide +kernel
theorem tabV_full : tabV 16 = #[.int .u32 0, .int .u32 498536548, .int .u32 997073096, .int .u32 651767980, .int .u32 1994146192, .int .u32 1802195444, .int .u32 1303535960, .int .u32 1342533948, .int .u32 3988292384, .int .u32 4027552580, .int .u32 3604390888, .int .u32 3412177804, .int .u32 2607071920, .int .u32 2262029012, .int .u32 2685067896, .int .u32 3183342108] := by
  have h : tabV 16 = (((List.range 16).map tabF).map fun n : Nat => Value.int .u32 (n : Int)).toArray := by
    unfold tabV
    rw [List.map_map]
    refine congrArg List.toArray (List.map_congr_left fun j hj => ?_)
    rw [List.mem_range] at hj
    simp only [Function.comp, if_pos hj]
  rw [h, tabN]; rfl
theorem tabV_set {K : Nat} (h : K < 16) : (tabV K).setIfInBounds K (.int .u32 ((tabF K : Nat) : Int)) = tabV (K + 1) := by
  apply Array.ext'
  unfold tabV
  rw [Array.toList_setIfInBounds]
  apply List.ext_getElem
  · simp
  · intro i h1 h2
    simp only [List.getElem_set, List.getElem_map, List.getElem_range]
    by_cases e : K = i
    · subst e; rw [if_pos rfl, if_pos (by omega)]
    · rw [if_neg e]
      by_cases e2 : i < K
      · rw [if_pos e2, if_pos (by omega)]
      · rw [if_neg e2, if_neg (by omega)]
theorem and1_u32 (r : Nat) (h : r < 4294967296) : bits .and .u32 (r : Int) 1 = ((r % 2 : Nat) : Int) := by
  rw [show (1 : Int) = ((1 : Nat) : Int) from rfl, u32_and_nat _ _ h (by omega), nat_mask1]
theorem xor_poly (r : Nat) (h : r < 4294967296) : bits .xor .u32 (r : Int) 3988292384 = ((r ^^^ 3988292384 : Nat) : Int) := by
  rw [show (3988292384 : Int) = ((3988292384 : Nat) : Int) from rfl, u32_xor_nat _ _ h (by omega)]
set_option maxRecDepth 100000 in
set_option maxHeartbeats 1600000 in
theorem steps_any {w : World} : Calls Tryz.prog 224 #[] w fun e w' => e = .returned (.agg (tabV 16)) ∧ Below w.heap.size w w' := by
  have K1 := Lib.hid (Blk.new (w.alloc (.cells #[.int .u32 0, .int .u32 0, .int .u32 0, .int .u32 0, .int .u32 0, .int .u32 0, .int .u32 0, .int .u32 0, .int .u32 0, .int .u32 0, .int .u32 0, .int .u32 0, .int .u32 0, .int .u32 0, .int .u32 0, .int .u32 0] 284)) 284 #[.int .u32 0, .int .u32 0, .int .u32 0, .int .u32 0, .int .u32 0, .int .u32 0, .int .u32 0, .int .u32 0, .int .u32 0, .int .u32 0, .int .u32 0, .int .u32 0, .int .u32 0, .int .u32 0, .int .u32 0, .int .u32 0])
  have K0 := Lib.hid ((Blk.new w 284 #[.int .u32 0, .int .u32 0, .int .u32 0, .int .u32 0, .int .u32 0, .int .u32 0, .int .u32 0, .int .u32 0, .int .u32 0, .int .u32 0, .int .u32 0, .int .u32 0, .int .u32 0, .int .u32 0, .int .u32 0, .int .u32 0]).alloc (.cells #[.int .u32 0, .int .u32 0, .int .u32 0, .int .u32 0, .int .u32 0, .int .u32 0, .int .u32 0, .int .u32 0, .int .u32 0, .int .u32 0, .int .u32 0, .int .u32 0, .int .u32 0, .int .u32 0, .int .u32 0, .int .u32 0] 284))
  have B1 := Lib.hid (((Below.refl w.heap.size w).alloc (Nat.le_refl _) (.cells #[.int .u32 0, .int .u32 0, .int .u32 0, .int .u32 0, .int .u32 0, .int .u32 0, .int .u32 0, .int .u32 0, .int .u32 0, .int .u32 0, .int .u32 0, .int .u32 0, .int .u32 0, .int .u32 0, .int .u32 0, .int .u32 0] 284)).alloc (by simp) (.cells #[.int .u32 0, .int .u32 0, .int .u32 0, .int .u32 0, .int .u32 0, .int .u32 0, .int .u32 0, .int .u32 0, .int .u32 0, .int .u32 0, .int .u32 0, .int .u32 0, .int .u32 0, .int .u32 0, .int .u32 0, .int .u32 0] 284))
  go_enter Tryz.func224, Tryz.ntmps224
  go_upto_region 2 with fail
  obtain ⟨W, hW⟩ : ∃ x, x = (w.alloc (.cells #[.int .u32 0, .int .u32 0, .int .u32 0, .int .u32 0, .int .u32 0, .int .u32 0, .int .u32 0, .int .u32 0, .int .u32 0, .int .u32 0, .int .u32 0, .int .u32 0, .int .u32 0, .int .u32 0, .int .u32 0, .int .u32 0] 284)).alloc (.cells #[.int .u32 0, .int .u32 0, .int .u32 0, .int .u32 0, .int .u32 0, .int .u32 0, .int .u32 0, .int .u32 0, .int .u32 0, .int .u32 0, .int .u32 0, .int .u32 0, .int .u32 0, .int .u32 0, .int .u32 0, .int .u32 0] 284) := ⟨_, rfl⟩
  obtain ⟨g, hg⟩ : ∃ x, x = w.heap.size + 1 := ⟨_, rfl⟩
  obtain ⟨g0, hg0⟩ : ∃ x, x = w.heap.size := ⟨_, rfl⟩
  rw [show (w.alloc (.cells #[.int .u32 0, .int .u32 0, .int .u32 0, .int .u32 0, .int .u32 0, .int .u32 0, .int .u32 0, .int .u32 0, .int .u32 0, .int .u32 0, .int .u32 0, .int .u32 0, .int .u32 0, .int .u32 0, .int .u32 0, .int .u32 0] 284)).heap.size = w.heap.size + 1 from by simp, ← tabV_zero] at K1
  rw [tabV_zero] at K1
  rw [← hW] at K1 K0 B1 ⊢
  rw [← hg] at K1 ⊢
  rw [← hg0] at K0 ⊢
  rw [← tabV_zero] at K1
  have HG0 := Lib.hid (show w.heap.size ≤ g0 from by omega)
  have HG := Lib.hid (show g0 < g from by omega)
  clear hW hg hg0
  go_wp2
  go_loopw [5] (fun i wr => ∃ K : Nat, i = .int .i64 K ∧ K ≤ 16 ∧ Hid (Blk wr g 284 (tabV K)) ∧ Hid (Blk wr g0 284 #[.int .u32 0, .int .u32 0, .int .u32 0, .int .u32 0, .int .u32 0, .int .u32 0, .int .u32 0, .int .u32 0, .int .u32 0, .int .u32 0, .int .u32 0, .int .u32 0, .int .u32 0, .int .u32 0, .int .u32 0, .int .u32 0]) ∧ Hid (Below w.heap.size w wr)) (fun i _ => 16 - (intOf i).toNat)
  case atStart => exact ⟨0, rfl, by omega, K1, K0, B1⟩
  case round =>
    obtain ⟨K, rfl, hK, hB1, hB0, hBel⟩ := hrel
    clear K1 K0 B1
    by_cases hlt : (K : Int) < 16
    · have Ew : IntKind.u32.wrap (K : Int) = (K : Int) := by simp [IntKind.wrap, IntKind.bits, IntKind.signed]; omega
      go_wp2
      go_loop [3, 10] (fun r j => ∃ m R : Nat, j = .int .i64 m ∧ m ≤ 4 ∧ r = .int .u32 R ∧ Hid (R = stepsF m K)) (fun _ j => 4 - (intOf j).toNat)
      case atStart => exact ⟨0, K, rfl, by omega, rfl, Lib.hid rfl⟩
      case round =>
        obtain ⟨m, R, rfl, hm, rfl, hR⟩ := hrel
        have hR32 : R < 4294967296 := by rw [hR.out]; exact stepsF_lt (by omega) m
        by_cases hmlt : (m : Int) < 4
        · have Eand := and1_u32 R hR32
          obtain ⟨q, hq⟩ : ∃ q, q = R / 2 := ⟨_, rfl⟩
          have Ehalf : (R : Int) / 2 = (q : Int) := by omega
          have hm1 : m + 1 ≤ 4 := by omega
          have Exor := xor_poly q (by omega)
          rcases (show R % 2 = 0 ∨ R % 2 = 1 from by omega) with h0 | h0
          · have HR2 := Lib.hid (show q = stepsF (m + 1) K from by rw [stepsF, ← hR.out]; unfold stepF; rw [if_neg (by omega), hq])
            rw [h0] at Eand
            clear hq h0 hR hR32 Exor
            go_wp2
            exact ⟨⟨m + 1, q, by go_num, hm1, rfl, HR2⟩, by simp [intOf]; omega⟩
          · obtain ⟨y, hy⟩ : ∃ y, y = q ^^^ 3988292384 := ⟨_, rfl⟩
            have HR2 := Lib.hid (show y = stepsF (m + 1) K from by rw [stepsF, ← hR.out]; unfold stepF; rw [if_pos h0, ← hq, hy])
            rw [h0] at Eand
            rw [← hy] at Exor
            clear hq h0 hR hR32 hy
            go_wp2
            exact ⟨⟨m + 1, y, by go_num, hm1, rfl, HR2⟩, by simp [intOf]; omega⟩
        · obtain rfl : m = 4 := by omega
          have hKN : K < 16 := by omega
          have HB2 := Lib.hid (show Blk (wr.setCell ⟨g, K, none⟩ (.int .u32 (R : Int))) g 284 (tabV (K + 1)) from by rw [hR.out]; show Blk (wr.setCell ⟨g, K, none⟩ (.int .u32 ((tabF K : Nat) : Int))) _ _ _; rw [← tabV_set hKN]; exact hB1.out.set_ K _)
          have HB02 := Lib.hid (hB0.out.far (p := ⟨g, K, none⟩) (by have := HG.out; show ¬ g0 = g; omega) (.int .u32 (R : Int)))
          have HBel2 := Lib.hid (hBel.out.setCell (p := ⟨g, K, none⟩) (by have := HG.out; have := HG0.out; show w.heap.size ≤ g; omega) (.int .u32 (R : Int)))
          have f := hB1.out.frozen K
          have hc : ∃ u, wr.cell? ⟨g, K, none⟩ = some u := ⟨_, (hB1.out.cell K).trans (Array.getElem?_eq_getElem (by unfold tabV; simp; omega))⟩
          obtain ⟨u, hc⟩ := hc
          have hK1 : K + 1 ≤ 16 := by omega
          clear hR hR32 hB1 hB0 hBel
          go_wp2
          exact ⟨⟨K + 1, by go_num, hK1, HB2, HB02, HBel2⟩, by simp [intOf]; omega⟩
    · obtain rfl : K = 16 := by omega
      have K16 := Lib.hid (show Blk wr g 284 #[.int .u32 0, .int .u32 498536548, .int .u32 997073096, .int .u32 651767980, .int .u32 1994146192, .int .u32 1802195444, .int .u32 1303535960, .int .u32 1342533948, .int .u32 3988292384, .int .u32 4027552580, .int .u32 3604390888, .int .u32 3412177804, .int .u32 2607071920, .int .u32 2262029012, .int .u32 2685067896, .int .u32 3183342108] from by rw [← tabV_full]; exact hB1.out)
      have e0 := hB0.out.set_ 0 (.int .u32 0)
      have e1 := e0.set_ 1 (.int .u32 498536548)
      have e2 := e1.set_ 2 (.int .u32 997073096)
      have e3 := e2.set_ 3 (.int .u32 651767980)
      have e4 := e3.set_ 4 (.int .u32 1994146192)
      have e5 := e4.set_ 5 (.int .u32 1802195444)
      have e6 := e5.set_ 6 (.int .u32 1303535960)
      have e7 := e6.set_ 7 (.int .u32 1342533948)
      have e8 := e7.set_ 8 (.int .u32 3988292384)
      have e9 := e8.set_ 9 (.int .u32 4027552580)
      have e10 := e9.set_ 10 (.int .u32 3604390888)
      have e11 := e10.set_ 11 (.int .u32 3412177804)
      have e12 := e11.set_ 12 (.int .u32 2607071920)
      have e13 := e12.set_ 13 (.int .u32 2262029012)
      have e14 := e13.set_ 14 (.int .u32 2685067896)
      have e15 := e14.set_ 15 (.int .u32 3183342108)
      obtain ⟨wf, hwf⟩ : ∃ x, x = ((((((((((((((((wr.setCell ⟨g0, 0, none⟩ (.int .u32 0)).setCell ⟨g0, 1, none⟩ (.int .u32 498536548)).setCell ⟨g0, 2, none⟩ (.int .u32 997073096)).setCell ⟨g0, 3, none⟩ (.int .u32 651767980)).setCell ⟨g0, 4, none⟩ (.int .u32 1994146192)).setCell ⟨g0, 5, none⟩ (.int .u32 1802195444)).setCell ⟨g0, 6, none⟩ (.int .u32 1303535960)).setCell ⟨g0, 7, none⟩ (.int .u32 1342533948)).setCell ⟨g0, 8, none⟩ (.int .u32 3988292384)).setCell ⟨g0, 9, none⟩ (.int .u32 4027552580)).setCell ⟨g0, 10, none⟩ (.int .u32 3604390888)).setCell ⟨g0, 11, none⟩ (.int .u32 3412177804)).setCell ⟨g0, 12, none⟩ (.int .u32 2607071920)).setCell ⟨g0, 13, none⟩ (.int .u32 2262029012)).setCell ⟨g0, 14, none⟩ (.int .u32 2685067896)).setCell ⟨g0, 15, none⟩ (.int .u32 3183342108)) := ⟨_, rfl⟩
      rw [← hwf] at e15
      have E15 := Lib.hid (show Blk wf g0 284 #[.int .u32 0, .int .u32 498536548, .int .u32 997073096, .int .u32 651767980, .int .u32 1994146192, .int .u32 1802195444, .int .u32 1303535960, .int .u32 1342533948, .int .u32 3988292384, .int .u32 4027552580, .int .u32 3604390888, .int .u32 3412177804, .int .u32 2607071920, .int .u32 2262029012, .int .u32 2685067896, .int .u32 3183342108] from by simpa using e15)
      have BF := Lib.hid (show Below w.heap.size w wf from by
        rw [hwf]
        exact ((((((((((((((((hBel.out.setCell (p := ⟨g0, 0, none⟩) HG0.out _).setCell (p := ⟨g0, 1, none⟩) HG0.out _).setCell (p := ⟨g0, 2, none⟩) HG0.out _).setCell (p := ⟨g0, 3, none⟩) HG0.out _).setCell (p := ⟨g0, 4, none⟩) HG0.out _).setCell (p := ⟨g0, 5, none⟩) HG0.out _).setCell (p := ⟨g0, 6, none⟩) HG0.out _).setCell (p := ⟨g0, 7, none⟩) HG0.out _).setCell (p := ⟨g0, 8, none⟩) HG0.out _).setCell (p := ⟨g0, 9, none⟩) HG0.out _).setCell (p := ⟨g0, 10, none⟩) HG0.out _).setCell (p := ⟨g0, 11, none⟩) HG0.out _).setCell (p := ⟨g0, 12, none⟩) HG0.out _).setCell (p := ⟨g0, 13, none⟩) HG0.out _).setCell (p := ⟨g0, 14, none⟩) HG0.out _).setCell (p := ⟨g0, 15, none⟩) HG0.out _))
      have HWF := Lib.hid hwf
      clear e0 e1 e2 e3 e4 e5 e6 e7 e8 e9 e10 e11 e12 e13 e14 e15 hwf hBel hB1
      have q0 := K16.out.cell 0
      have z0 := hB0.out.cell 0
      have f0 := hB0.out.frozen 0
      have q1 := K16.out.cell 1
      have z1 := hB0.out.cell 1
      have f1 := hB0.out.frozen 1
      have q2 := K16.out.cell 2
      have z2 := hB0.out.cell 2
      have f2 := hB0.out.frozen 2
      have q3 := K16.out.cell 3
      have z3 := hB0.out.cell 3
      have f3 := hB0.out.frozen 3
      have q4 := K16.out.cell 4
      have z4 := hB0.out.cell 4
      have f4 := hB0.out.frozen 4
      have q5 := K16.out.cell 5
      have z5 := hB0.out.cell 5
      have f5 := hB0.out.frozen 5
      have q6 := K16.out.cell 6
      have z6 := hB0.out.cell 6
      have f6 := hB0.out.frozen 6
      have q7 := K16.out.cell 7
      have z7 := hB0.out.cell 7
      have f7 := hB0.out.frozen 7
      have q8 := K16.out.cell 8
      have z8 := hB0.out.cell 8
      have f8 := hB0.out.frozen 8
      have q9 := K16.out.cell 9
      have z9 := hB0.out.cell 9
      have f9 := hB0.out.frozen 9
      have q10 := K16.out.cell 10
      have z10 := hB0.out.cell 10
      have f10 := hB0.out.frozen 10
      have q11 := K16.out.cell 11
      have z11 := hB0.out.cell 11
      have f11 := hB0.out.frozen 11
      have q12 := K16.out.cell 12
      have z12 := hB0.out.cell 12
      have f12 := hB0.out.frozen 12
      have q13 := K16.out.cell 13
      have z13 := hB0.out.cell 13
      have f13 := hB0.out.frozen 13
      have q14 := K16.out.cell 14
      have z14 := hB0.out.cell 14
      have f14 := hB0.out.frozen 14
      have q15 := K16.out.cell 15
      have z15 := hB0.out.cell 15
      have f15 := hB0.out.frozen 15
      simp only [List.getElem?_toArray, List.getElem?_cons_zero, List.getElem?_cons_succ] at q0 z0 q1 z1 q2 z2 q3 z3 q4 z4 q5 z5 q6 z6 q7 z7 q8 z8 q9 z9 q10 z10 q11 z11 q12 z12 q13 z13 q14 z14 q15 z15
      go_wp2
      rw [← HWF.out]
      have y0 := E15.out.cell 0
      have y1 := E15.out.cell 1
      have y2 := E15.out.cell 2
      have y3 := E15.out.cell 3
      have y4 := E15.out.cell 4
      have y5 := E15.out.cell 5
      have y6 := E15.out.cell 6
      have y7 := E15.out.cell 7
      have y8 := E15.out.cell 8
      have y9 := E15.out.cell 9
      have y10 := E15.out.cell 10
      have y11 := E15.out.cell 11
      have y12 := E15.out.cell 12
      have y13 := E15.out.cell 13
      have y14 := E15.out.cell 14
      have y15 := E15.out.cell 15
      simp only [List.getElem?_toArray, List.getElem?_cons_zero, List.getElem?_cons_succ] at y0 y1 y2 y3 y4 y5 y6 y7 y8 y9 y10 y11 y12 y13 y14 y15
      rw [tabV_full]
      exact bodyPost_ret (v := .agg #[.int .u32 0, .int .u32 498536548, .int .u32 997073096, .int .u32 651767980, .int .u32 1994146192, .int .u32 1802195444, .int .u32 1303535960, .int .u32 1342533948, .int .u32 3988292384, .int .u32 4027552580, .int .u32 3604390888, .int .u32 3412177804, .int .u32 2607071920, .int .u32 2262029012, .int .u32 2685067896, .int .u32 3183342108]) (by simp [results, Tryz.results224, go_sem, y0, y1, y2, y3, y4, y5, y6, y7, y8, y9, y10, y11, y12, y13, y14, y15]) rfl ⟨rfl, BF.out⟩
end Go.Proofs.YtmnpchncmbnddaaGreat
/- The sum of bytes, by contract: More, Of. -/
namespace Go.Proofs.YtmnpchncmbnddaaGreat
open Go.RowKit

/-- What the register comes to over half a byte, and over a byte. -/
def halfF (r : Nat) : Nat := (r / 16) ^^^ tabF (r % 16)
def regF (r : Nat) (x : UInt8) : Nat := halfF (halfF (r ^^^ x.toNat))
/-- The sum of bytes. -/
def sumF (b : List UInt8) : Nat := 4294967295 - b.foldl regF 4294967295
theorem tabF_lt {i : Nat} (h : i < 16) : tabF i < 4294967296 := stepsF_lt (by omega) 4
theorem halfF_lt {r : Nat} (h : r < 4294967296) : halfF r < 4294967296 := by
  unfold halfF
  exact Nat.xor_lt_two_pow (n := 32) (by omega) (tabF_lt (by omega))
theorem regF_lt {r : Nat} (h : r < 4294967296) (x : UInt8) : regF r x < 4294967296 := by
  unfold regF
  have := x.toNat_lt
  exact halfF_lt (halfF_lt (Nat.xor_lt_two_pow (n := 32) h (by omega)))
theorem foldl_lt (b : List UInt8) : ∀ {r : Nat}, r < 4294967296 → b.foldl regF r < 4294967296 := by
  induction b with
  | nil => intro r h; exact h
  | cons x b ih => intro r h; exact ih (regF_lt h x)
theorem sumF_lt (b : List UInt8) : sumF b < 4294967296 := by unfold sumF; omega
theorem fold_snoc {b : List UInt8} {K : Nat} (h : K < b.length) (r : Nat) : (b.take (K + 1)).foldl regF r = regF ((b.take K).foldl regF r) b[K] := by
  rw [List.take_succ_eq_append_getElem h, List.foldl_append]; rfl
theorem tab_cell {w : World} {g : Nat} (h : Blk w g 284 (tabV 16)) {j : Nat} (hj : j < 16) : w.cell? ⟨g, j, none⟩ = some (.int .u32 ((tabF j : Nat) : Int)) := by
  rw [h.cell j]
  unfold tabV
  rw [List.getElem?_toArray, List.getElem?_map, List.getElem?_range hj]
  simp only [Option.map_some, if_pos hj]
theorem mask15 (r : Nat) (h : r < 4294967296) : bits .and .u32 (r : Int) 15 = ((r % 16 : Nat) : Int) := by
  rw [show (15 : Int) = ((15 : Nat) : Int) from rfl, u32_and_nat _ _ h (by omega)]
  congr 1
  exact Nat.and_two_pow_sub_one_eq_mod r 4
theorem u32_ones0 (b : Nat) (hb : b < 2 ^ 32) : (2 ^ 32 - 1) ^^^ b = 2 ^ 32 - 1 - b := by
  apply Nat.eq_of_testBit_eq
  intro i
  rw [Nat.testBit_xor, Nat.testBit_two_pow_sub_one, show 2 ^ 32 - 1 - b = 2 ^ 32 - (b + 1) by omega, Nat.testBit_two_pow_sub_succ hb]
  by_cases hi : i < 32
  · simp [hi]
  · have : b.testBit i = false := Nat.testBit_lt_two_pow (Nat.lt_of_lt_of_le hb (Nat.pow_le_pow_right (by decide) (by omega)))
    simp [hi, this]
theorem not_u32 (r : Nat) (h : r < 4294967296) : bits .xor .u32 IntKind.u32.max (r : Int) = 4294967295 - (r : Int) := by
  rw [show IntKind.u32.max = ((4294967295 : Nat) : Int) from rfl, u32_xor_nat _ _ (by omega) h, show (4294967295 : Nat) = 2 ^ 32 - 1 from rfl, u32_ones0 r (by omega)]
  omega
set_option maxRecDepth 100000 in
set_option maxHeartbeats 1600000 in
theorem more_any {w : World} {B c : Nat} {A : Option Addr} {b : List UInt8} (hr : BReads w B A b) (hB : B ≤ w.heap.size) (hl : b.length ≤ 140737488355328) :
    Calls Tryz.prog 213 #[.int .u32 0, .slice A b.length c] w fun e w' => e = .returned (.int .u32 (sumF b)) ∧ Below w.heap.size w w' := by
  have H0 := Lib.hid hr
  have HB := Lib.hid hB
  clear hr hB
  go_enter Tryz.func213, Tryz.ntmps213
  go_wp2_with fail
  refine steps_any.mono ?_
  rintro e w1 ⟨rfl, hb⟩
  have R1 := Lib.hid ((H0.out.more HB.out).below hb)
  have K2 := Lib.hid (Blk.new w1 284 (tabV 16))
  have B2 := Lib.hid (hb.trans (((Below.refl w1.heap.size w1).alloc (Nat.le_refl _) (.cells (tabV 16) 284)).mono hb.size))
  have R2 := Lib.hid (R1.out.below (((Below.refl w1.heap.size w1).alloc (Nat.le_refl _) (.cells (tabV 16) 284)).mono hb.size))
  rw [tabV_full] at K2 B2 R2 ⊢
  clear hb
  go_upto_region 3 with fail
  obtain ⟨w2, hw2⟩ : ∃ x, x = w1.alloc (.cells #[.int .u32 0, .int .u32 498536548, .int .u32 997073096, .int .u32 651767980, .int .u32 1994146192, .int .u32 1802195444, .int .u32 1303535960, .int .u32 1342533948, .int .u32 3988292384, .int .u32 4027552580, .int .u32 3604390888, .int .u32 3412177804, .int .u32 2607071920, .int .u32 2262029012, .int .u32 2685067896, .int .u32 3183342108] 284) := ⟨_, rfl⟩
  obtain ⟨g, hg⟩ : ∃ x, x = w1.heap.size := ⟨_, rfl⟩
  rw [← hw2] at K2 B2 R2 ⊢
  rw [← hg] at K2 ⊢
  rw [← tabV_full] at K2
  clear hw2 hg R1
  go_wp2
  go_loop [6, 14] (fun r i => ∃ K R : Nat, i = .int .i64 K ∧ K ≤ b.length ∧ r = .int .u32 R ∧ Hid (R = (b.take K).foldl regF 4294967295)) (fun _ i => b.length - (intOf i).toNat)
  case atStart => exact ⟨0, 4294967295, rfl, by omega, rfl, Lib.hid rfl⟩
  case round =>
    obtain ⟨K, R, rfl, hK, rfl, hR⟩ := hrel
    have hR32 : R < 4294967296 := by rw [hR.out]; exact foldl_lt _ (by omega)
    by_cases hlt : (K : Int) < b.length
    · have hKN : K < b.length := by omega
      obtain ⟨bb, off, rfl, hbb, hc⟩ := R2.out.at_ hKN
      obtain ⟨x, hx⟩ : ∃ x, x = b[K] := ⟨_, rfl⟩
      have HS := Lib.hid (show (b.take (K + 1)).foldl regF 4294967295 = regF R x from by rw [fold_snoc hKN, hx, hR.out])
      rw [← hx] at hc
      have hx8 := x.toNat_lt
      obtain ⟨r1, hr1⟩ : ∃ r1, r1 = R ^^^ x.toNat := ⟨_, rfl⟩
      have h1 : r1 < 4294967296 := by rw [hr1]; exact Nat.xor_lt_two_pow (n := 32) hR32 (by omega)
      have E1 : bits .xor .u32 (R : Int) (x.toNat : Int) = (r1 : Int) := by rw [u32_xor_nat _ _ hR32 (by omega), hr1]
      have Ew : IntKind.u32.wrap (x.toNat : Int) = (x.toNat : Int) := by simp [IntKind.wrap, IntKind.bits, IntKind.signed]; omega
      obtain ⟨q1, hq1⟩ : ∃ q, q = r1 / 16 := ⟨_, rfl⟩
      obtain ⟨m1, hm1⟩ : ∃ q, q = r1 % 16 := ⟨_, rfl⟩
      have Em1 := mask15 r1 h1
      rw [← hm1] at Em1
      have Eq1 : (r1 : Int) / 16 = (q1 : Int) := by omega
      have hm16 : m1 < 16 := by omega
      have c1 := tab_cell K2.out hm16
      obtain ⟨t1, ht1⟩ : ∃ t, t = tabF m1 := ⟨_, rfl⟩
      have hl1 : t1 < 4294967296 := by rw [ht1]; exact tabF_lt hm16
      obtain ⟨r2, hr2⟩ : ∃ r, r = q1 ^^^ t1 := ⟨_, rfl⟩
      have h2 : r2 < 4294967296 := by rw [hr2]; exact Nat.xor_lt_two_pow (n := 32) (by omega) hl1
      have E2 : bits .xor .u32 (q1 : Int) (t1 : Int) = (r2 : Int) := by rw [u32_xor_nat _ _ (by omega) hl1, hr2]
      have HR2 := Lib.hid (show r2 = halfF r1 from by rw [hr2, ht1, hq1, hm1]; rfl)
      rw [← ht1] at c1
      obtain ⟨q2, hq2⟩ : ∃ q, q = r2 / 16 := ⟨_, rfl⟩
      obtain ⟨m2, hm2⟩ : ∃ q, q = r2 % 16 := ⟨_, rfl⟩
      have Em2 := mask15 r2 h2
      rw [← hm2] at Em2
      have Eq2 : (r2 : Int) / 16 = (q2 : Int) := by omega
      have hm26 : m2 < 16 := by omega
      have c2 := tab_cell K2.out hm26
      obtain ⟨t2, ht2⟩ : ∃ t, t = tabF m2 := ⟨_, rfl⟩
      have hl2 : t2 < 4294967296 := by rw [ht2]; exact tabF_lt hm26
      obtain ⟨r3, hr3⟩ : ∃ r, r = q2 ^^^ t2 := ⟨_, rfl⟩
      have E3 : bits .xor .u32 (q2 : Int) (t2 : Int) = (r3 : Int) := by rw [u32_xor_nat _ _ (by omega) hl2, hr3]
      have HR3 := Lib.hid (show r3 = regF R x from by unfold regF; rw [← hr1, ← HR2.out]; rw [hr3, ht2, hq2, hm2]; rfl)
      rw [← ht2] at c2
      have HN := Lib.hid (show r3 = (b.take (K + 1)).foldl regF 4294967295 from by rw [HS.out, HR3.out])
      have hK1 : K + 1 ≤ b.length := by omega
      have hm16i : (m1 : Int) < 16 := by omega
      have hm26i : (m2 : Int) < 16 := by omega
      clear hx HS hr1 hq1 hm1 ht1 hr2 HR2 hq2 hm2 ht2 hr3 HR3 hR hR32 h1 h2 hl1 hl2
      go_wp2
      exact ⟨⟨K + 1, r3, by go_num, hK1, rfl, HN⟩, by simp [intOf]; omega⟩
    · obtain rfl : K = b.length := by omega
      have HE := Lib.hid (show (sumF b : Int) = 4294967295 - (R : Int) from by unfold sumF; rw [hR.out, List.take_length] at hR32; rw [hR.out, List.take_length]; omega)
      clear hR
      go_wp2
      go_ret
      exact ⟨by rw [HE.out, ← not_u32 R hR32]; rfl, B2.out⟩
theorem of_any {w : World} {B c : Nat} {A : Option Addr} {b : List UInt8} (hr : BReads w B A b) (hB : B ≤ w.heap.size) (hl : b.length ≤ 140737488355328) :
    Calls Tryz.prog 178 #[.slice A b.length c] w fun e w' => e = .returned (.int .u32 (sumF b)) ∧ Below w.heap.size w w' := by
  have hm := more_any (c := c) hr hB hl
  clear hr
  go_enter Tryz.func178, Tryz.ntmps178
  go_wp2_with fail
  refine hm.mono ?_
  rintro e w1 ⟨rfl, hb⟩
  have HB := Lib.hid hb
  clear hb hm
  go_wp2
  go_ret
  exact ⟨rfl, HB.out⟩
end Go.Proofs.YtmnpchncmbnddaaGreat
/- The reader's methods Int, Bytes, Text, Take: contracts against the plain reader (printed by a program of this claim's own). -/
namespace Go.Proofs.YtmnpchncmbnddaaGreat
open Go.RowKit
set_option linter.unusedSimpArgs false

theorem enterInt (caps : Array Value) (w : World) : (callFunc 200 caps).run Tryz.prog w = .ok (.enter 200 caps) w :=
  callFunc_enter 200 Tryz.f200 _ Tryz.func200 rfl (by kernel_rfl) caps w
theorem rdInt_any {w : World} {g : Nat} {r : Rd} (h : RdIs w g r) (low : Int) (high : Int) :
    Calls Tryz.prog 151 #[.pointer (some ⟨g, 0, none⟩), .int .i64 low, .int .i64 high] w (RdPost w g (r.int low high) (AnsInt)) := by
  obtain ⟨A, c, HR⟩ := h
  have hmf : ∀ (fn : Fn) (first cap : Array Value) (w : World), (Instr.makeFunc fn first cap).run Tryz.prog w = .ok (.func fn first cap) w := fun _ _ _ _ => rfl
  have H := Lib.hid HR
  clear HR
  go_enter Tryz.func151, Tryz.ntmps151
  go_wp2_with fail
  obtain ⟨W1, hW1⟩ : ∃ x, x = w.alloc (.cells #[.pointer (some ⟨g, 0, none⟩)] 229) := ⟨_, rfl⟩
  obtain ⟨W2, hW2⟩ : ∃ x, x = W1.alloc (.cells #[.int .i64 low] 3) := ⟨_, rfl⟩
  obtain ⟨W3, hW3⟩ : ∃ x, x = W2.alloc (.cells #[.int .i64 high] 3) := ⟨_, rfl⟩
  obtain ⟨W4, hW4⟩ : ∃ x, x = W3.alloc (.cells #[.int .i64 0] 3) := ⟨_, rfl⟩
  have s1 : W1.heap.size = w.heap.size + 1 := by rw [hW1]; simp
  have s2 : W2.heap.size = w.heap.size + 1 + 1 := by rw [hW2]; simp; omega
  have s3 : W3.heap.size = w.heap.size + 1 + 1 + 1 := by rw [hW3]; simp; omega
  have Rn : RdAt W4 g A c r.l r.at_ r.f := by rw [hW4, hW3, hW2, hW1]; exact (((H.out.alloc _).alloc _).alloc _).alloc _
  have k1 : Blk W4 (w.heap.size) 229 #[.pointer (some ⟨g, 0, none⟩)] := by rw [hW4, hW3, hW2, hW1]; exact (((Blk.new _ _ _).alloc _).alloc _).alloc _
  have k2 : Blk W4 (w.heap.size + 1) 3 #[.int .i64 low] := by rw [← s1, hW4, hW3, hW2]; exact ((Blk.new _ _ _).alloc _).alloc _
  have k3 : Blk W4 (w.heap.size + 1 + 1) 3 #[.int .i64 high] := by rw [← s2, hW4, hW3]; exact (Blk.new _ _ _).alloc _
  have k4 : Blk W4 (w.heap.size + 1 + 1 + 1) 3 #[.int .i64 0] := by rw [← s3, hW4]; exact Blk.new _ _ _
  have Kn : Keeps (fun k => k = g) w W4 := by rw [hW4, hW3, hW2, hW1]; exact ((((Keeps.refl _ _).alloc _).alloc _).alloc _).alloc _
  have hszn : w.heap.size ≤ W4.heap.size := Kn.size
  have hg := H.out.blk.lt
  rw [← hW1, ← hW2, ← hW3, ← hW4]
  clear hW1 hW2 hW3 hW4 s1 s2 s3
  by_cases hf : r.f = 0
  · rw [hf] at Rn
    have HF := Lib.hid hf
    clear hf
    refine (reading_any Rn 200 _ (fun k => k = g ∨ k = w.heap.size + 1 + 1 + 1) (fun k hk => by have := k4.lt; rcases hk with rfl | rfl <;> omega) (.inl rfl) (enterInt _)
      (fun w2 => ∃ n k, numberF low high (r.l.drop r.at_) = .ok (n, k) ∧ Blk w2 (w.heap.size + 1 + 1 + 1) 3 #[.int .i64 n] ∧ RdAt w2 g A c r.l (r.at_ + k) 0)
      (fun m w2 => numberF low high (r.l.drop r.at_) = .error m ∧ Blk w2 (w.heap.size + 1 + 1 + 1) 3 #[.int .i64 0])
      (fun w1 hb => int1_any (Rn.below hb) (k1.below' hb) (k2.below' hb) (k3.below' hb) (k4.below' hb) (by omega))).mono ?_
    rintro e w5 ⟨rfl, hk, h⟩
    have K5 := Lib.hid (Kn.trans hk (fun i hi => hi.elim (fun h => .inl h) (fun h => .inr (by omega))))
    clear hk Rn k1 k2 k3 k4 Kn hszn
    rcases h with ⟨n, k, hn, hb, hr⟩ | ⟨m, w2, ⟨hn, hb⟩, hk2, rfl, at', hr⟩
    · have R5 := Lib.hid hr
      have HN := Lib.hid hn
      have c1 := hb.cell 0
      simp at c1
      clear hn hb hr
      go_wp2
      go_ret
      refine ⟨?_, ⟨A, c, ?_⟩, K5.out⟩ <;> (simp only [Rd.int, Rd.bytes, Rd.take, Rd.step, HF.out, HN.out, if_true])
      · rfl
      · exact R5.out
    · have R5 := Lib.hid (hr.faulted r.at_ H.out.le m)
      have HN := Lib.hid hn
      have c1 := ((hb.far (p := ⟨g, 1, none⟩) (by simp; omega) (.int .i64 r.at_)).far (p := ⟨g, 2, none⟩) (by simp; omega) (.int .i64 m)).cell 0
      simp only [List.getElem?_toArray, List.getElem?_cons_zero] at c1
      obtain ⟨w6, hw6⟩ : ∃ x, x = (w2.setCell ⟨g, 1, none⟩ (.int .i64 r.at_)).setCell ⟨g, 2, none⟩ (.int .i64 m) := ⟨_, rfl⟩
      rw [← hw6] at R5 c1 K5 ⊢
      clear hn hb hr hk2 hw6
      go_wp2
      go_ret
      refine ⟨?_, ⟨A, c, ?_⟩, K5.out⟩ <;> (simp only [Rd.int, Rd.bytes, Rd.take, Rd.step, HF.out, HN.out, if_true])
      · rfl
      · exact R5.out
  · refine (reading_fault Rn hf _).mono ?_
    rintro e w5 ⟨rfl, hb⟩
    have c1 := (k4.below' hb).cell 0
    simp at c1
    have R5 := Lib.hid (Rn.below hb)
    have K5 := Lib.hid (Kn.trans (Keeps.of_below hb (fun _ => False)) (fun _ h => h.elim))
    have HF := Lib.hid hf
    clear hb Rn k1 k2 k3 k4 Kn hf hszn
    go_wp2
    go_ret
    refine ⟨?_, ⟨A, c, ?_⟩, K5.out⟩ <;> (simp only [Rd.int, Rd.bytes, Rd.take, Rd.step, if_neg HF.out])
    · rfl
    · exact R5.out
theorem enterBytes (caps : Array Value) (w : World) : (callFunc 202 caps).run Tryz.prog w = .ok (.enter 202 caps) w :=
  callFunc_enter 202 Tryz.f202 _ Tryz.func202 rfl (by kernel_rfl) caps w
theorem rdBytes_any {w : World} {g : Nat} {r : Rd} (h : RdIs w g r) (most : Int) :
    Calls Tryz.prog 152 #[.pointer (some ⟨g, 0, none⟩), .int .i64 most] w (RdPost w g (r.bytes most) (AnsBytes w)) := by
  obtain ⟨A, c, HR⟩ := h
  have hmf : ∀ (fn : Fn) (first cap : Array Value) (w : World), (Instr.makeFunc fn first cap).run Tryz.prog w = .ok (.func fn first cap) w := fun _ _ _ _ => rfl
  have H := Lib.hid HR
  clear HR
  go_enter Tryz.func152, Tryz.ntmps152
  go_wp2_with fail
  obtain ⟨W1, hW1⟩ : ∃ x, x = w.alloc (.cells #[.pointer (some ⟨g, 0, none⟩)] 229) := ⟨_, rfl⟩
  obtain ⟨W2, hW2⟩ : ∃ x, x = W1.alloc (.cells #[.int .i64 most] 3) := ⟨_, rfl⟩
  obtain ⟨W3, hW3⟩ : ∃ x, x = W2.alloc (.cells #[.slice none 0 0] 49) := ⟨_, rfl⟩
  have s1 : W1.heap.size = w.heap.size + 1 := by rw [hW1]; simp
  have s2 : W2.heap.size = w.heap.size + 1 + 1 := by rw [hW2]; simp; omega
  have Rn : RdAt W3 g A c r.l r.at_ r.f := by rw [hW3, hW2, hW1]; exact ((H.out.alloc _).alloc _).alloc _
  have k1 : Blk W3 (w.heap.size) 229 #[.pointer (some ⟨g, 0, none⟩)] := by rw [hW3, hW2, hW1]; exact ((Blk.new _ _ _).alloc _).alloc _
  have k2 : Blk W3 (w.heap.size + 1) 3 #[.int .i64 most] := by rw [← s1, hW3, hW2]; exact (Blk.new _ _ _).alloc _
  have k3 : Blk W3 (w.heap.size + 1 + 1) 49 #[.slice none 0 0] := by rw [← s2, hW3]; exact Blk.new _ _ _
  have Kn : Keeps (fun k => k = g) w W3 := by rw [hW3, hW2, hW1]; exact (((Keeps.refl _ _).alloc _).alloc _).alloc _
  have hszn : w.heap.size ≤ W3.heap.size := Kn.size
  have hg := H.out.blk.lt
  rw [← hW1, ← hW2, ← hW3]
  clear hW1 hW2 hW3 s1 s2
  by_cases hf : r.f = 0
  · rw [hf] at Rn
    have HF := Lib.hid hf
    clear hf
    refine (reading_any Rn 202 _ (fun k => k = g ∨ k = w.heap.size + 1 + 1) (fun k hk => by have := k3.lt; rcases hk with rfl | rfl <;> omega) (.inl rfl) (enterBytes _)
      (fun w2 => ∃ n k, blockF most (r.l.drop r.at_) = .ok (n, k) ∧ (∃ v, Blk w2 (w.heap.size + 1 + 1) 49 #[v] ∧ BOwns w2 w.heap.size v n) ∧ RdAt w2 g A c r.l (r.at_ + k) 0)
      (fun m w2 => blockF most (r.l.drop r.at_) = .error m ∧ Blk w2 (w.heap.size + 1 + 1) 49 #[.slice none 0 0])
      (fun w1 hb => (bytes1_any (Rn.below hb) (k1.below' hb) (k2.below' hb) (k3.below' hb) (by omega)).mono (fun e w2 ⟨a, b⟩ => ⟨a, b.imp (fun ⟨x, n, k, y, ⟨v, z1, z2⟩, u⟩ => ⟨x, n, k, y, ⟨v, z1, owns_less z2 (Nat.le_trans hszn hb.size)⟩, u⟩) (fun x => x)⟩))).mono ?_
    rintro e w5 ⟨rfl, hk, h⟩
    have K5 := Lib.hid (Kn.trans hk (fun i hi => hi.elim (fun h => .inl h) (fun h => .inr (by omega))))
    clear hk Rn k1 k2 k3 Kn hszn
    rcases h with ⟨n, k, hn, ⟨v, hb, hown⟩, hr⟩ | ⟨m, w2, ⟨hn, hb⟩, hk2, rfl, at', hr⟩
    · have R5 := Lib.hid hr
      have HN := Lib.hid hn
      have c1 := hb.cell 0
      simp at c1
      have HO := Lib.hid hown
      clear hn hb hr hown
      go_wp2
      go_ret
      refine ⟨?_, ⟨A, c, ?_⟩, K5.out⟩ <;> (simp only [Rd.int, Rd.bytes, Rd.take, Rd.step, HF.out, HN.out, if_true])
      · exact ⟨_, rfl, HO.out⟩
      · exact R5.out
    · have R5 := Lib.hid (hr.faulted r.at_ H.out.le m)
      have HN := Lib.hid hn
      have c1 := ((hb.far (p := ⟨g, 1, none⟩) (by simp; omega) (.int .i64 r.at_)).far (p := ⟨g, 2, none⟩) (by simp; omega) (.int .i64 m)).cell 0
      simp only [List.getElem?_toArray, List.getElem?_cons_zero] at c1
      obtain ⟨w6, hw6⟩ : ∃ x, x = (w2.setCell ⟨g, 1, none⟩ (.int .i64 r.at_)).setCell ⟨g, 2, none⟩ (.int .i64 m) := ⟨_, rfl⟩
      rw [← hw6] at R5 c1 K5 ⊢
      clear hn hb hr hk2 hw6
      go_wp2
      go_ret
      refine ⟨?_, ⟨A, c, ?_⟩, K5.out⟩ <;> (simp only [Rd.int, Rd.bytes, Rd.take, Rd.step, HF.out, HN.out, if_true])
      · exact ⟨_, rfl, BOwns.nil _ _⟩
      · exact R5.out
  · refine (reading_fault Rn hf _).mono ?_
    rintro e w5 ⟨rfl, hb⟩
    have c1 := (k3.below' hb).cell 0
    simp at c1
    have R5 := Lib.hid (Rn.below hb)
    have K5 := Lib.hid (Kn.trans (Keeps.of_below hb (fun _ => False)) (fun _ h => h.elim))
    have HF := Lib.hid hf
    clear hb Rn k1 k2 k3 Kn hf hszn
    go_wp2
    go_ret
    refine ⟨?_, ⟨A, c, ?_⟩, K5.out⟩ <;> (simp only [Rd.int, Rd.bytes, Rd.take, Rd.step, if_neg HF.out])
    · exact ⟨_, rfl, BOwns.nil _ _⟩
    · exact R5.out
theorem enterText (caps : Array Value) (w : World) : (callFunc 198 caps).run Tryz.prog w = .ok (.enter 198 caps) w :=
  callFunc_enter 198 Tryz.f198 _ Tryz.func198 rfl (by kernel_rfl) caps w
theorem rdText_any {w : World} {g : Nat} {r : Rd} (h : RdIs w g r) (most : Int) :
    Calls Tryz.prog 150 #[.pointer (some ⟨g, 0, none⟩), .int .i64 most] w (RdPost w g (r.bytes most) (AnsText)) := by
  obtain ⟨A, c, HR⟩ := h
  have hmf : ∀ (fn : Fn) (first cap : Array Value) (w : World), (Instr.makeFunc fn first cap).run Tryz.prog w = .ok (.func fn first cap) w := fun _ _ _ _ => rfl
  have H := Lib.hid HR
  clear HR
  go_enter Tryz.func150, Tryz.ntmps150
  go_wp2_with fail
  obtain ⟨W1, hW1⟩ : ∃ x, x = w.alloc (.cells #[.pointer (some ⟨g, 0, none⟩)] 229) := ⟨_, rfl⟩
  obtain ⟨W2, hW2⟩ : ∃ x, x = W1.alloc (.cells #[.int .i64 most] 3) := ⟨_, rfl⟩
  obtain ⟨W3, hW3⟩ : ∃ x, x = W2.alloc (.cells #[.string ⟨#[]⟩] 9) := ⟨_, rfl⟩
  have s1 : W1.heap.size = w.heap.size + 1 := by rw [hW1]; simp
  have s2 : W2.heap.size = w.heap.size + 1 + 1 := by rw [hW2]; simp; omega
  have Rn : RdAt W3 g A c r.l r.at_ r.f := by rw [hW3, hW2, hW1]; exact ((H.out.alloc _).alloc _).alloc _
  have k1 : Blk W3 (w.heap.size) 229 #[.pointer (some ⟨g, 0, none⟩)] := by rw [hW3, hW2, hW1]; exact ((Blk.new _ _ _).alloc _).alloc _
  have k2 : Blk W3 (w.heap.size + 1) 3 #[.int .i64 most] := by rw [← s1, hW3, hW2]; exact (Blk.new _ _ _).alloc _
  have k3 : Blk W3 (w.heap.size + 1 + 1) 9 #[.string ⟨#[]⟩] := by rw [← s2, hW3]; exact Blk.new _ _ _
  have Kn : Keeps (fun k => k = g) w W3 := by rw [hW3, hW2, hW1]; exact (((Keeps.refl _ _).alloc _).alloc _).alloc _
  have hszn : w.heap.size ≤ W3.heap.size := Kn.size
  have hg := H.out.blk.lt
  rw [← hW1, ← hW2, ← hW3]
  clear hW1 hW2 hW3 s1 s2
  by_cases hf : r.f = 0
  · rw [hf] at Rn
    have HF := Lib.hid hf
    clear hf
    refine (reading_any Rn 198 _ (fun k => k = g ∨ k = w.heap.size + 1 + 1) (fun k hk => by have := k3.lt; rcases hk with rfl | rfl <;> omega) (.inl rfl) (enterText _)
      (fun w2 => ∃ n k, blockF most (r.l.drop r.at_) = .ok (n, k) ∧ Blk w2 (w.heap.size + 1 + 1) 9 #[.string ⟨n.toArray⟩] ∧ RdAt w2 g A c r.l (r.at_ + k) 0)
      (fun m w2 => blockF most (r.l.drop r.at_) = .error m ∧ Blk w2 (w.heap.size + 1 + 1) 9 #[.string ⟨#[]⟩])
      (fun w1 hb => text1_any (Rn.below hb) (k1.below' hb) (k2.below' hb) (k3.below' hb) (by omega))).mono ?_
    rintro e w5 ⟨rfl, hk, h⟩
    have K5 := Lib.hid (Kn.trans hk (fun i hi => hi.elim (fun h => .inl h) (fun h => .inr (by omega))))
    clear hk Rn k1 k2 k3 Kn hszn
    rcases h with ⟨n, k, hn, hb, hr⟩ | ⟨m, w2, ⟨hn, hb⟩, hk2, rfl, at', hr⟩
    · have R5 := Lib.hid hr
      have HN := Lib.hid hn
      have c1 := hb.cell 0
      simp at c1
      clear hn hb hr
      go_wp2
      go_ret
      refine ⟨?_, ⟨A, c, ?_⟩, K5.out⟩ <;> (simp only [Rd.int, Rd.bytes, Rd.take, Rd.step, HF.out, HN.out, if_true])
      · rfl
      · exact R5.out
    · have R5 := Lib.hid (hr.faulted r.at_ H.out.le m)
      have HN := Lib.hid hn
      have c1 := ((hb.far (p := ⟨g, 1, none⟩) (by simp; omega) (.int .i64 r.at_)).far (p := ⟨g, 2, none⟩) (by simp; omega) (.int .i64 m)).cell 0
      simp only [List.getElem?_toArray, List.getElem?_cons_zero] at c1
      obtain ⟨w6, hw6⟩ : ∃ x, x = (w2.setCell ⟨g, 1, none⟩ (.int .i64 r.at_)).setCell ⟨g, 2, none⟩ (.int .i64 m) := ⟨_, rfl⟩
      rw [← hw6] at R5 c1 K5 ⊢
      clear hn hb hr hk2 hw6
      go_wp2
      go_ret
      refine ⟨?_, ⟨A, c, ?_⟩, K5.out⟩ <;> (simp only [Rd.int, Rd.bytes, Rd.take, Rd.step, HF.out, HN.out, if_true])
      · rfl
      · exact R5.out
  · refine (reading_fault Rn hf _).mono ?_
    rintro e w5 ⟨rfl, hb⟩
    have c1 := (k3.below' hb).cell 0
    simp at c1
    have R5 := Lib.hid (Rn.below hb)
    have K5 := Lib.hid (Kn.trans (Keeps.of_below hb (fun _ => False)) (fun _ h => h.elim))
    have HF := Lib.hid hf
    clear hb Rn k1 k2 k3 Kn hf hszn
    go_wp2
    go_ret
    refine ⟨?_, ⟨A, c, ?_⟩, K5.out⟩ <;> (simp only [Rd.int, Rd.bytes, Rd.take, Rd.step, if_neg HF.out])
    · rfl
    · exact R5.out
end Go.Proofs.YtmnpchncmbnddaaGreat
