/- Contracts and plain laws that this claim leans on, laid together: Back, Col, Keys. -/
import Derived.Test.YtmnpchncmbnddaaGreatG13
import Derived.Test.YtmnpchncmbnddaaGreatG12
import Derived.Lib.SliceRun
import Derived.Test.YtmnpchncmbnddaaGreatShelf
set_option linter.all false
set_option linter.unusedVariables false
set_option linter.unusedSimpArgs false
set_option linter.unnecessarySimpa false
/- slices.Backward over links: what it hands, by contract. -/
namespace Go.Proofs.YtmnpchncmbnddaaGreat
open Go.RowKit Go.Shelf
attribute [local go_sem] Oper.semAt_some

/-- What a round over slices.Backward is handed. -/
structure Bk where
  i : Nat
  l : Lk
def Lk.agg (l : Lk) : Value := .agg #[.int .i64 l.x.st, .slice l.A l.x.v.length l.c, .bool l.x.dead]
def Bk.encs (x : Bk) : Array Value := #[.int .i64 x.i, x.l.agg]
def backL (ls : List Lk) : List Bk := (ls.mapIdx fun i l => ⟨i, l⟩).reverse
theorem backL_len (ls : List Lk) : (backL ls).length = ls.length := by simp [backL]
theorem backL_at {ls : List Lk} {K : Nat} (h : K < ls.length) : (backL ls)[ls.length - (K + 1)]? = some ⟨K, ls[K]⟩ := by
  unfold backL
  rw [List.getElem?_reverse (by simp; omega)]
  simp only [List.length_mapIdx, List.getElem?_mapIdx]
  rw [show ls.length - 1 - (ls.length - (K + 1)) = K from by omega, List.getElem?_eq_getElem h]; rfl
theorem backL_links (ls : List Lk) : (backL ls).map Bk.l = ls.reverse := by
  unfold backL
  rw [List.map_reverse]
  congr 1
  apply List.ext_getElem?
  intro i
  simp
  cases ls[i]? <;> rfl
/-- Links in a row that lies between two blocks. -/
def LkRow (W : World) (m n : Nat) (A : Option Addr) (ls : List Lk) : Prop :=
  0 < ls.length → ∃ b off, A = some ⟨b, off, none⟩ ∧ m ≤ b ∧ b < n ∧ ∀ j u, (lkCells ls)[j]? = some u → W.cell? ⟨b, off + j, none⟩ = some u
theorem LkRow.mid {W W' : World} {m n : Nat} {A : Option Addr} {ls : List Lk} (h : LkRow W m n A ls) (hm : Mid m n W W') : LkRow W' m n A ls := fun hl => by
  obtain ⟨b, off, hA, h1, h2, h3⟩ := h hl
  exact ⟨b, off, hA, h1, h2, fun j u hu => (hm.cell (p := ⟨b, off + j, none⟩) h1 h2).trans (h3 j u hu)⟩
theorem lkCells_at {ls : List Lk} {K : Nat} (h : K < ls.length) : (lkCells ls)[K * 3]? = some (.int .i64 (ls[K]).x.st) ∧ (lkCells ls)[K * 3 + 1]? = some (.slice (ls[K]).A (ls[K]).x.v.length (ls[K]).c) ∧ (lkCells ls)[K * 3 + 2]? = some (.bool (ls[K]).x.dead) := by
  have hf : ∀ j, j < 3 → (lkCells ls)[K * 3 + j]? = (ls[K]).cells[j]? := fun j hj => by
    unfold lkCells
    rw [List.flatMap_def]
    exact flat_get (L := ls.map Lk.cells) (n := 3) (i := K) (j := j) (x := (ls[K]).cells) (fun x hx => by obtain ⟨t', _, rfl⟩ := List.mem_map.1 hx; rfl) (by rw [List.getElem?_map, List.getElem?_eq_getElem h]; rfl) hj
  exact ⟨hf 0 (by decide), hf 1 (by decide), hf 2 (by decide)⟩
theorem LkRow.at_ {W : World} {m n : Nat} {A : Option Addr} {ls : List Lk} (h : LkRow W m n A ls) {K : Nat} (hK : K < ls.length) : ∃ b off, A = some ⟨b, off, none⟩ ∧ W.cell? ⟨b, off + K * 3, none⟩ = some (.int .i64 (ls[K]).x.st) ∧ W.cell? ⟨b, off + K * 3 + 1, none⟩ = some (.slice (ls[K]).A (ls[K]).x.v.length (ls[K]).c) ∧ W.cell? ⟨b, off + K * 3 + 2, none⟩ = some (.bool (ls[K]).x.dead) := by
  obtain ⟨b, off, hA, _, _, h3⟩ := h (by omega)
  obtain ⟨c0, c1, c2⟩ := lkCells_at hK
  exact ⟨b, off, hA, h3 _ _ c0, by have := h3 _ _ c1; rwa [← Nat.add_assoc] at this, by have := h3 _ _ c2; rwa [← Nat.add_assoc] at this⟩
def Bk.rd (ls : List Lk) (pre : List Bk) (x : Bk) (_ : World) : Prop := (pre ++ [x]) <+: backL ls
theorem Bk.rd_own (ls : List Lk) (B : Nat) (pre : List Bk) : Go.OwnFrom B (Bk.rd ls pre) := fun _ _ _ _ h _ _ => h
theorem prefix_snoc {α : Type} {L pre : List α} {x : α} (h : pre <+: L) (hx : L[pre.length]? = some x) : pre ++ [x] <+: L := by
  obtain ⟨r, rfl⟩ := h
  rw [List.getElem?_append_right (Nat.le_refl _), Nat.sub_self] at hx
  cases r with
  | nil => cases hx
  | cons y r => simp at hx; subst hx; exact ⟨r, by simp⟩
set_option maxRecDepth 100000 in
set_option maxHeartbeats 2000000 in
theorem back1_any {n bx m₀ n₀ c : Nat} {A : Option Addr} {ls : List Lk} (hn : 1 ≤ n) (hl : ls.length ≤ 1099511627776) (hc : ls.length ≤ c) (l : Nat) (J Jx : List Bk → World → Prop) (W : World)
    (hbx : m₀ ≤ bx ∧ bx < n₀) (hcell : W.cell? ⟨bx, 0, none⟩ = some (.slice A ls.length c)) (hr : LkRow W m₀ n₀ A ls)
    (hY : ∀ pre x V, J pre V → Bk.rd ls pre x V → YieldAt Fence.wide (n - 1) Tryz.prog l x.encs V fun e V' => (e = .returned (.bool true) ∧ J (pre ++ [x]) V' ∧ Mid m₀ n₀ V V') ∨ (e = .returned (.bool false) ∧ Jx (pre ++ [x]) V')) (h0 : J [] W) :
    CallsIn Fence.wide n Tryz.prog 160 #[.func (.yield l) #[] #[], .pointer (some ⟨bx, 0, none⟩)] W fun e V => (∃ v, e = .returned v) ∧
      ((∃ xs, xs = backL ls ∧ J xs V) ∨ (∃ pre : List Bk, pre <+: backL ls ∧ Jx pre V)) := by
  have HR := Lib.hid hr
  have HY := Lib.hid hY
  have H0 := Lib.hid h0
  have HC := Lib.hid hcell
  have HBX := Lib.hid hbx
  obtain ⟨N, hN⟩ : ∃ N, N = ls.length := ⟨_, rfl⟩
  have HN := Lib.hid hN
  rw [← hN] at hl hc HC
  have y0 := HC.out
  clear hr hY h0 hcell hbx hN
  refine callsIn_of_wp Tryz.func160 rfl trivial ?_ rfl
  simp only [Tryz.ntmps160, List.size_toArray, List.length_cons, List.length_nil, Nat.reduceAdd, Nat.reduceSub, Array.replicate_succ, Array.replicate_zero, List.push_toArray, List.append_toArray, List.nil_append, List.cons_append]
  gi_wp2
  clear y0
  gi_loopw [3] (fun t wr => ∃ (T : Int) (k : Nat) (pre : List Bk), t = .int .i64 T ∧ k ≤ N ∧ T + 1 = (k : Int) ∧ Hid (pre.length + k = N) ∧ Hid (pre <+: backL ls) ∧ Hid (J pre wr) ∧ Hid (Mid m₀ n₀ W wr)) (fun t _ => (intOf t + 1).toNat)
  case atStart => exact ⟨_, N, [], rfl, Nat.le_refl _, by omega, Lib.hid (by simp), Lib.hid (List.nil_prefix), H0, Lib.hid (Mid.refl _ _ _)⟩
  case round =>
    obtain ⟨T, k, pre, rfl, hk, hT, hpl, hpre, hJ, hM⟩ := hrel
    cases k with
    | zero =>
      obtain rfl : T = -1 := by omega
      have HE := Lib.hid (show pre = backL ls from hpre.out.eq_of_length (by rw [backL_len, ← HN.out]; have := hpl.out; omega))
      clear hT
      gi_wp2
      refine bodyPost_end (results_none rfl _ _ _) rfl ?_
      exact ⟨⟨_, rfl⟩, .inl ⟨_, HE.out, hJ.out⟩⟩
    | succ K =>
      obtain rfl : T = (K : Int) := by omega
      clear hT
      have hKN : K < ls.length := by have := HN.out; omega
      have hKi : K < N := by omega
      have y0 : wr.cell? ⟨bx, 0, none⟩ = some (.slice A N c) := (hM.out.cell (p := ⟨bx, 0, none⟩) HBX.out.1 HBX.out.2).trans HC.out
      obtain ⟨b, off, rfl, c0, c1, c2⟩ := (HR.out.mid hM.out).at_ hKN
      have HP2 := Lib.hid (show pre ++ [⟨K, ls[K]⟩] <+: backL ls from prefix_snoc hpre.out (by rw [show pre.length = ls.length - (K + 1) from by have := hpl.out; have := HN.out; omega]; exact backL_at hKN))
      obtain ⟨x, hx⟩ : ∃ x, x = ls[K] := ⟨_, rfl⟩
      rw [← hx] at c0 c1 c2 HP2
      obtain ⟨⟨st, v, dd⟩, Av, cv⟩ := x
      simp only at c0 c1 c2
      obtain ⟨fn, tmps, assign, body, hy, hR⟩ := HY.out pre ⟨K, ⟨⟨st, v, dd⟩, Av, cv⟩⟩ wr hJ.out HP2.out
      have HRR := Lib.hid hR
      unfold Bk.encs Lk.agg at hy
      simp only at hy
      clear hx hR
      gi_wp2
      refine HRR.out.mono ?_
      clear hy HRR
      rintro e W3 (⟨rfl, hJ3, hk3⟩ | ⟨rfl, hJx3⟩)
      · have HJ3 := Lib.hid hJ3
        have HM3 := Lib.hid (hM.out.trans hk3)
        have HL3 := Lib.hid (show (pre ++ [(⟨K, ⟨⟨st, v, dd⟩, Av, cv⟩⟩ : Bk)]).length + K = N from by have := hpl.out; rw [List.length_append]; simp; omega)
        clear hJ3 hk3
        gi_wp2
        exact ⟨⟨_, K, _, rfl, by omega, by omega, HL3, HP2, HJ3, HM3⟩, by simp [intOf]⟩
      · have HJ3 := Lib.hid hJx3
        clear hJx3
        gi_wp2
        refine bodyPost_ret (results_none rfl _ _ _) rfl ?_
        exact ⟨⟨_, rfl⟩, .inr ⟨_, HP2.out, HJ3.out⟩⟩
theorem back_seq {w0 : World} {n bx m₀ c : Nat} {A : Option Addr} {ls : List Lk} (hn : 1 ≤ n) (hl : ls.length ≤ 1099511627776) (hc : ls.length ≤ c) (hbx : m₀ ≤ bx ∧ bx < w0.heap.size) (hcell : w0.cell? ⟨bx, 0, none⟩ = some (.slice A ls.length c)) (hr : LkRow w0 m₀ w0.heap.size A ls) :
    SeqRd Fence.wide n Tryz.prog 160 #[.pointer (some ⟨bx, 0, none⟩)] Bk.encs (Mid m₀ w0.heap.size) (Bk.rd ls) (fun xs => xs = backL ls) (fun pre => pre <+: backL ls) w0 :=
  fun l J Jx W hW _ _ hY h0 => back1_any hn hl hc l J Jx W hbx ((hW.cell (p := ⟨bx, 0, none⟩) hbx.2).trans hcell) (hr.mid (Mid.of_below hW (Nat.le_refl _))) hY h0
set_option maxRecDepth 100000 in
theorem backward_any {w : World} {A : Option Addr} {n c : Nat} : Calls Tryz.prog 103 #[.slice A n c] w fun e w' => e = .returned (.func (.func 160) #[] #[.pointer (some ⟨w.heap.size, 0, none⟩)]) ∧ w' = w.alloc (.cells #[.slice A n c] 183) := by
  have hmf : ∀ (fn : Fn) (first cap : Array Value) (w : World), (Instr.makeFunc fn first cap).run Tryz.prog w = .ok (.func fn first cap) w := fun _ _ _ _ => rfl
  go_enter Tryz.func103, Tryz.ntmps103
  go_wp2
  go_ret
  exact ⟨rfl, rfl⟩
theorem one_lks (ls : List Lk) : ∀ u ∈ lkCells ls, u.oneCell' = true := by
  intro u hu
  unfold lkCells at hu
  obtain ⟨l, _, h⟩ := List.mem_flatMap.1 hu
  exact one_lk l u h
theorem row_newB {w : World} {e : TypeId} {cs : Array Value} {size n : Nat} (hs : cs.size = n * size) (hn : n ≤ 281474976710656) : (w.alloc (.cells cs e)).ownsRow w.heap.size e size (.slice (some ⟨w.heap.size, 0, none⟩) n n) n cs.toList :=
  ⟨by rw [Array.length_toList, hs], .inr ⟨w.heap.size, n, cs, rfl, Nat.le_refl _, World.alloc_heap_new w _, Nat.le_refl _, by unfold maxLen; omega, hs, by rw [← hs, ← Array.length_toList, List.take_length]⟩⟩
theorem lkRow_of {W : World} {base : Nat} {e : TypeId} {A : Option Addr} {c : Nat} {ls : List Lk} (h : W.ownsRow base e 3 (.slice A ls.length c) ls.length (lkCells ls)) : LkRow W base W.heap.size A ls ∧ ls.length ≤ c := by
  refine ⟨fun hl => ?_, ?_⟩
  · rcases h.2 with ⟨h2, _⟩ | ⟨g, cap, cur, hv, hb, hh, h4, h5, h6, h7⟩
    · injection h2 with h2 h3 _; omega
    injection hv with hv
    subst hv
    refine ⟨g, 0, rfl, hb, (Array.getElem?_eq_some_iff.1 hh).1, fun j u hu => ?_⟩
    have hj : j < ls.length * 3 := by rw [← lkCells_len]; exact (List.getElem?_eq_some_iff.1 hu).1
    rw [← h7, List.getElem?_take_of_lt hj] at hu
    rw [Nat.zero_add]
    unfold World.cell?
    simp only [hh]
    simpa using hu
  · obtain ⟨A1, c1, e1, h2, _⟩ := own_slice h
    injection e1 with _ _ e2; omega
set_option maxRecDepth 100000 in
set_option maxHeartbeats 1600000 in
theorem lkclone_any {w : World} {A : Option Addr} {c : Nat} {ls : List Lk} (hr : Reads w w.heap.size 3 A ls.length (lkCells ls)) (hl : ls.length ≤ 1099511627776) :
    Calls Tryz.prog 144 #[.slice A ls.length c] w fun e w' => ∃ A' c', e = .returned (.slice A' ls.length c') ∧ ls.length ≤ c' ∧ LkRow w' w.heap.size w'.heap.size A' ls ∧ Below w.heap.size w w' := by
  have HR := Lib.hid hr
  obtain ⟨N, hN⟩ : ∃ N, N = ls.length := ⟨_, rfl⟩
  have HN := Lib.hid hN
  rw [← hN] at hl ⊢
  clear hr hN
  have ke := fun (w : World) (a : Option Addr) (n c : Nat) => Lib.run_eql_slice_nil (P := Tryz.prog) w 183 135 a n c 0 0 Tryz.underlying183
  go_enter Tryz.func144, Tryz.ntmps144
  cases A with
  | none =>
    have h0 : N = 0 := by
      rcases Nat.eq_zero_or_pos N with h | h
      · exact h
      · obtain ⟨b, off, e, _⟩ := HR.out.2 (by rw [← HN.out]; exact h); cases e
    subst h0
    go_wp2
    go_ret
    exact ⟨none, 0, rfl, Nat.le_refl _, fun h => absurd HN.out (by omega), Below.refl _ _⟩
  | some p =>
    have B1 := Lib.hid ((Below.refl w.heap.size w).alloc (Nat.le_refl _) (.cells #[] 135))
    have hs := Reads.src (P := Tryz.prog) ((HR.out.below B1.out).more B1.out.size) Tryz.underlying183 c (one_lks ls)
    rw [← HN.out] at hs
    have HS := Lib.hid hs
    clear hs
    go_wp2_with (at_builtin; refine Stop.of ?_)
    refine ⟨wpList_append_any _ rfl rfl w.heap.size Tryz.underlying183 info_link rfl (by decide) (by decide) rfl (row_newB (w := w) (e := 135) (cs := #[]) (size := 3) (n := 0) rfl (by decide)) rfl HS.out (by omega) (by simp) ?_⟩
    intro v' w1 hown hg hf
    obtain ⟨A1, c1, rfl, hc1, _⟩ := own_slice hown
    simp only [List.nil_append, Nat.zero_add] at hown
    rw [HN.out] at hown
    have HO := Lib.hid (lkRow_of hown)
    have HB := Lib.hid (show Below w.heap.size w w1 from B1.out.grown hg B1.out.size (fun k hk => by cases hk; exact Nat.le_refl _))
    simp only [Nat.zero_add]
    clear hown hg hf hc1
    go_wp2
    go_ret
    exact ⟨A1, c1, rfl, by rw [HN.out]; exact HO.out.2, HO.out.1, HB.out⟩
set_option maxRecDepth 100000 in
theorem chAll_any {w : World} {v : Option Nat} : Calls Tryz.prog 102 #[ptrG v] w fun e w' => e = .returned (.func (.func 159) #[] #[.pointer (some ⟨w.heap.size, 0, none⟩)]) ∧ w' = w.alloc (.cells #[ptrG v] 137) := by
  have hmf : ∀ (fn : Fn) (first cap : Array Value) (w : World), (Instr.makeFunc fn first cap).run Tryz.prog w = .ok (.func fn first cap) w := fun _ _ _ _ => rfl
  cases v with
  | none =>
    unfold ptrG
    go_enter Tryz.func102, Tryz.ntmps102
    go_wp2
    go_ret
    exact ⟨rfl, rfl⟩
  | some g =>
    unfold ptrG
    go_enter Tryz.func102, Tryz.ntmps102
    go_wp2
    go_ret
    exact ⟨rfl, rfl⟩
theorem cell_lt {w : World} {p : Addr} {v : Value} (h : w.cell? p = some v) : p.block < w.heap.size := by
  rcases Nat.lt_or_ge p.block w.heap.size with h1 | h1
  · exact h1
  · unfold World.cell? at h
    rw [Array.getElem?_eq_none h1] at h
    simp at h
def Lk.obj (l : Lk) : Obj := .cells #[.int .i64 l.x.st, .slice l.A l.x.v.length l.c, .bool l.x.dead] 135
def bkFrame (p q s : Nat) (a : Act) (x : Bk) (k : Nat) : Act := { tmps := ((a.tmps.setIfInBounds p (.int .i64 x.i)).setIfInBounds q x.l.agg).setIfInBounds s (.pointer (some ⟨k, 0, none⟩)), defers := [] }
theorem range_bk {p q s : Nat} {F : Fence} {n : Nat} {P : Program} {g : Operand} {assign body : Code} {Q : Exit → Act → World → Prop} {a : Act} {w : World} (hro : F.round = none) (h1 : 1 ≤ n) {gf : Nat} {lb : Array Value} (hg : a.eval g = .func (.func gf) #[] lb) (hF : F.fn gf) (eg : ∀ args w, (callFunc gf args).run P w = .ok (.enter gf args) w)
    {m₀ : Nat} {S Sp : List Bk → Prop} {ls : List Lk} (hseq : SeqRd F (n - 1) P gf lb Bk.encs (Mid m₀ w.heap.size) (Bk.rd ls) S Sp w)
    (I : List Bk → World → Prop) (Ix : Code → List Bk → World → Prop) (hI : Go.OwnFrom w.heap.size I) (hIx : ∀ c, Go.OwnFrom w.heap.size (Ix c)) (h0 : I [] w)
    (hassign : ∀ (l : Nat) (x : Bk) (W : World) (K : Act → World → Prop), K (bkFrame p q s a x W.heap.size) (W.alloc x.l.obj) →
      assign.wpIn (F.inRound l) (n - 1 - 1) P (Exit.then K (fun _ _ _ => False)) { tmps := (a.tmps.setIfInBounds p (.int .i64 x.i)).setIfInBounds q x.l.agg, defers := [] } W)
    (hbody : ∀ (l k : Nat) (pre : List Bk) (x : Bk) (W : World), w.heap.size + 2 ≤ k → W.heap[k]? = some x.l.obj → W.heap.size = k + 1 → (∃ (V : World) (j : Nat) (o o' : Obj), I pre V ∧ k = V.heap.size ∧ w.heap.size ≤ j ∧ (V.alloc x.l.obj).heap[j]? = some o ∧ o.isCells = false ∧ W = (V.alloc x.l.obj).putObj j o') → I pre W → Bk.rd ls pre x W → body.wpIn (F.inRound l) (n - 1 - 1) P (ownPostG w.heap.size (Mid m₀ w.heap.size) I Ix (pre ++ [x]) W) (bkFrame p q s a x k) W)
    (hdone : ∀ (D : Nat) (xs : List Bk) (W : World), w.heap.size ≤ D → S xs → I xs W → W.heap[D]? = some (.deferred (some [])) → Q .normal { a with defers := { target := .collected D, args := #[] } :: a.defers } W)
    (hstop : ∀ (D : Nat) (c : Code) (pre : List Bk) (W : World), w.heap.size ≤ D → Sp pre → Ix c pre W → W.heap[D]? = some (.deferred (some [])) → c.wpIn F n P Q { a with defers := { target := .collected D, args := #[] } :: a.defers } W) :
    (Code.rangeFunc g #[p, q] assign body).wpIn F n P Q a w :=
  range_rb hro h1 hg hF eg hseq (fun h k => h.trans k) (fun W l o o' hl _ _ _ => ⟨(grownBy_putObj' W l o').size, fun k _ h2 => World.putObj_heap_other (by omega)⟩)
    (fun W o h => Mid.of_below ((Below.refl _ _).alloc (Nat.le_refl _) _) h) (Bk.rd_own _ _) (Below.refl _ _) (fun _ => rfl) I Ix hI hIx h0 (bkFrame p q s a) (fun x => x.l.obj) (fun l x W K hK => by have h := hassign l x W K hK; simpa [Bk.encs] using h) hbody hdone hstop
/-- A link that a round of Chain.All is handed. -/
def Lk.encs (x : Lk) : Array Value := #[x.agg]
def Lk.rd (ls : List Lk) (pre : List Lk) (x : Lk) (_ : World) : Prop := (pre ++ [x]) <+: ls.reverse
theorem Lk.rd_own (ls : List Lk) (B : Nat) (pre : List Lk) : Go.OwnFrom B (Lk.rd ls pre) := fun _ _ _ _ h _ _ => h
theorem marks_end {F : Fence} {n : Nat} {P : Program} {fn : Func} {R : Ending → World → Prop} {a : Act} {w : World} {v : Value} {D : Nat} (hd : a.defers = [{ target := .collected D, args := #[] }]) (hD : w.heap[D]? = some (.deferred (some [])))
    (hr : ∀ w', (results fn a.tmps).run P w' = .ok v w') (hR : R (.returned v) (w.putObj D (.deferred none))) : bodyPostM F n P fn R .normal a w := marks_ret hd hD hr hR
theorem room_wide (k : Nat) : Fence.wide.room k := fun d h => by cases h
theorem RoundIn.any5 {m m' l l' : Nat} {P : Program} {f : FuncId} {tmps : Array Value} {assign body : Code} {w : World} {R : Ending → World → Prop} (h : RoundIn Fence.wide m P l f tmps assign body w R) : RoundIn (Fence.wide.inRound l') m' P l f tmps assign body w R := ⟨h.1, fun c cs _ => h.2 c cs (room_wide _)⟩
set_option maxRecDepth 100000 in
set_option maxHeartbeats 3200000 in
theorem chAll1_any {bx g c : Nat} {A : Option Addr} {ls : List Lk} (hl : ls.length ≤ 1099511627776) (l : Nat) (J Jx : Nat → List Lk → World → Prop) (W : World)
    (hcell : W.cell? ⟨bx, 0, none⟩ = some (.pointer (some ⟨g, 0, none⟩))) (hg : W.cell? ⟨g, 0, none⟩ = some (.slice A ls.length c)) (hr : Reads W W.heap.size 3 A ls.length (lkCells ls))
    (hJ : ∀ n₁, Go.OwnFrom W.heap.size (J n₁)) (hJx : ∀ n₁, Go.OwnFrom W.heap.size (Jx n₁))
    (hY : ∀ n₁ pre x V, W.heap.size ≤ n₁ → n₁ ≤ V.heap.size → J n₁ pre V → Lk.rd ls pre x V → YieldAt Fence.wide 4 Tryz.prog l x.encs V fun e V' => (e = .returned (.bool true) ∧ J n₁ (pre ++ [x]) V' ∧ KeepsFrom W.heap.size V V' ∧ Mid W.heap.size n₁ V V') ∨ (e = .returned (.bool false) ∧ Jx n₁ (pre ++ [x]) V' ∧ KeepsFrom W.heap.size V V'))
    (h0 : ∀ n₁ V, W.heap.size ≤ n₁ → n₁ ≤ V.heap.size → Below W.heap.size W V → J n₁ [] V) :
    CallsIn Fence.wide 8 Tryz.prog 159 #[.func (.yield l) #[] #[], .pointer (some ⟨bx, 0, none⟩)] W fun e V => (∃ v, e = .returned v) ∧
      ∃ n₁, ((∃ xs, xs = ls.reverse ∧ J n₁ xs V) ∨ (∃ pre : List Lk, pre <+: ls.reverse ∧ Jx n₁ pre V)) := by
  have HR := Lib.hid hr
  have HJ := Lib.hid hJ
  have HJX := Lib.hid hJx
  have HY := Lib.hid hY
  have H0 := Lib.hid h0
  have HCL := Lib.hid (fun (w : World) (hb : Below W.heap.size W w) => lkclone_any (w := w) (A := A) (c := c) ((hr.below hb).more hb.size) hl)
  obtain ⟨N, hN⟩ : ∃ N, N = ls.length := ⟨_, rfl⟩
  have HN := Lib.hid hN
  rw [← hN] at hl hg HCL
  have hbl : bx < W.heap.size := cell_lt hcell
  have hgl : g < W.heap.size := cell_lt hg
  clear hr hJ hJx hY h0 hN
  refine callsIn_of_wp_marks (n := 8) Tryz.func159 rfl trivial ?_ rfl
  simp only [Tryz.ntmps159, List.size_toArray, List.length_cons, List.length_nil, Nat.reduceAdd, Nat.reduceSub, Array.replicate_succ, Array.replicate_zero, List.push_toArray, List.append_toArray, List.nil_append, List.cons_append]
  obtain ⟨w0, hw0⟩ : ∃ w0, w0 = W.alloc (.cells #[.func (.yield l) #[] #[]] 241) := ⟨_, rfl⟩
  have K0 := Lib.hid (show Blk w0 W.heap.size 241 #[.func (.yield l) #[] #[]] from by rw [hw0]; exact Blk.new _ _ _)
  have B0 := Lib.hid (show Below W.heap.size W w0 from by rw [hw0]; exact (Below.refl _ _).alloc (Nat.le_refl _) _)
  have HW0 := Lib.hid hw0
  clear hw0
  gi_wp2_with fail
  refine ⟨trivial, ?_⟩
  rw [← HW0.out]
  refine (callsIn_wide.2 (HCL.out w0 B0.out)).mono ?_
  rintro e w1 ⟨A1, c1, rfl, hc1, hrow, hb1⟩
  have B1 := Lib.hid hb1
  have HROW := Lib.hid hrow
  have HC1 := Lib.hid hc1
  clear hb1 hrow hc1 HCL HR
  gi_wp2_with fail
  refine ⟨trivial, ?_⟩
  refine (callsIn_wide.2 (backward_any (w := w1))).mono ?_
  rintro e w2 ⟨rfl, hw2⟩
  have B2 := Lib.hid (show Below w1.heap.size w1 w2 from by rw [hw2]; exact (Below.refl _ _).alloc (Nat.le_refl _) _)
  have K2 := Lib.hid (show Blk w2 w1.heap.size 183 #[.slice A1 N c1] from by rw [hw2]; exact Blk.new _ _ _)
  have HB := Lib.hid ((B0.out.trans (B1.out.mono B0.out.size)).trans (B2.out.mono (Nat.le_trans B0.out.size B1.out.size)))
  have KY := Lib.hid (show Blk w2 W.heap.size 241 #[.func (.yield l) #[] #[]] from (K0.out.below' B1.out).below' B2.out)
  have HSEQ := back_seq (w0 := w2) (n := 7) (bx := w1.heap.size) (m₀ := W.heap.size) (c := c1) (A := A1) (ls := ls) (by decide) (by rw [← HN.out]; exact hl) (by rw [← HN.out]; exact HC1.out) ⟨Nat.le_trans B0.out.size B1.out.size, K2.out.lt⟩ (by rw [← HN.out]; exact K2.out.cell 0) (fun h => by
    obtain ⟨b, off, e, h1, h2, h3⟩ := HROW.out h
    exact ⟨b, off, e, Nat.le_trans B0.out.size h1, Nat.lt_of_lt_of_le h2 B2.out.size, fun j u hu => (B2.out.cell (p := ⟨b, off + j, none⟩) h2).trans (h3 j u hu)⟩)
  clear hw2 K0 B0 B1 HROW HC1 K2
  gi_wp2_with fail
  refine range_bk (p := 13) (q := 14) (s := 4) (F := Fence.wide) (n := 8) rfl (by decide) rfl trivial (fun caps w => callFunc_enter 160 Tryz.f160 _ Tryz.func160 rfl (by kernel_rfl) caps w) HSEQ
    (fun pre V => J w2.heap.size (pre.map Bk.l) V ∧ Mid W.heap.size w2.heap.size w2 V) (fun c pre V => c = .ret ∧ Jx w2.heap.size (pre.map Bk.l) V) ?hI ?hIx ?h0 ?hassign ?hbody ?hdone ?hstop
  case hI =>
    rintro pre A B row ⟨h1, h2⟩ hg hr
    refine ⟨HJ.out _ _ _ _ _ h1 hg (fun r e => ⟨Nat.le_trans HB.out.size (hr r e).1, (hr r e).2⟩), h2.trans ⟨hg.size, fun k _ hk => hg.block k (Nat.lt_of_lt_of_le hk h2.1) (fun e => by have := (hr k e.symm).1; omega)⟩⟩
  case hIx =>
    rintro c pre A B row ⟨h1, h2⟩ hg hr
    exact ⟨h1, HJX.out _ _ _ _ _ h2 hg (fun r e => ⟨Nat.le_trans HB.out.size (hr r e).1, (hr r e).2⟩)⟩
  case h0 => exact ⟨H0.out _ _ HB.out.size (Nat.le_refl _) HB.out, Mid.refl _ _ _⟩
  case hassign =>
    rintro l' ⟨i, ⟨⟨st, v, dd⟩, Av, cv⟩⟩ W' K hK
    simp only [bkFrame, Lk.agg, Lk.obj, List.setIfInBounds_toArray, List.set_cons_zero, List.set_cons_succ] at hK ⊢
    gi_wp2
    exact hK
  case hdone =>
    rintro D xs W' hD rfl ⟨h1, h2⟩ hDD
    gi_wp2
    refine marks_end rfl hDD (fun w' => results_none rfl _ _ _) ?_
    exact ⟨⟨_, rfl⟩, _, .inl ⟨_, (backL_links ls).symm ▸ rfl, (backL_links ls) ▸ (HJ.out _).putObj _ h1 (Nat.le_trans HB.out.size hD) hDD rfl⟩⟩
  case hstop =>
    rintro D cc pre W' hD hpre ⟨rfl, h1⟩ hDD
    gi_wp2
    refine marks_ret rfl hDD (fun w' => results_none rfl _ _ _) ?_
    refine ⟨⟨_, rfl⟩, _, .inr ⟨_, ?_, (HJX.out _).putObj _ h1 (Nat.le_trans HB.out.size hD) hDD rfl⟩⟩
    obtain ⟨r, hr⟩ := hpre
    exact ⟨r.map Bk.l, by rw [← backL_links, ← hr, List.map_append]⟩
  case hbody =>
    rintro l' k pre ⟨i, ⟨⟨st, v, dd⟩, Av, cv⟩⟩ W' hk hob hsz _ ⟨h1, h2⟩ hrd
    have y0 : W'.cell? ⟨W.heap.size, 0, none⟩ = some (.func (.yield l) #[] #[]) := (h2.cell (p := ⟨W.heap.size, 0, none⟩) (Nat.le_refl _) KY.out.lt).trans (KY.out.cell 0)
    have hB : Blk W' k 135 #[.int .i64 st, .slice Av v.length cv, .bool dd] := hob
    have x0 := hB.cell 0
    have x1 := hB.cell 1
    have x2 := hB.cell 2
    simp at x0 x1 x2
    have HRD := Lib.hid (show Lk.rd ls (pre.map Bk.l) ⟨⟨st, v, dd⟩, Av, cv⟩ W' from by
      obtain ⟨r, hr⟩ := hrd
      refine ⟨r.map Bk.l, ?_⟩
      rw [← backL_links, ← hr]; simp)
    obtain ⟨fn, tmps, assign, body, hy, hR⟩ := HY.out w2.heap.size (pre.map Bk.l) ⟨⟨st, v, dd⟩, Av, cv⟩ W' HB.out.size (by omega) h1 HRD.out
    have HRR := Lib.hid hR
    have H2 := Lib.hid h2
    unfold Lk.encs Lk.agg at hy
    simp only at hy
    clear h1 h2 hR hrd hB hob
    simp only [bkFrame, Lk.agg, List.setIfInBounds_toArray, List.set_cons_zero, List.set_cons_succ]
    gi_wp2
    refine RoundIn.mono (RoundIn.any5 HRR.out) ?_
    clear hy HRR
    have hkf : ∀ {V : World}, KeepsFrom W.heap.size W' V → KeepsFrom w2.heap.size W' V := fun h => ⟨h.size, fun k o hk => h.same k o (Nat.le_trans HB.out.size hk)⟩
    rintro e W3 (⟨rfl, hJ3, hk3, hm3⟩ | ⟨rfl, hJx3, hk3⟩)
    · have HR := Lib.hid (And.intro hJ3 (And.intro (hkf hk3) hm3))
      clear hJ3 hk3 hm3 hkf
      gi_wp2
      exact ⟨HR.out.2.1, HR.out.2.2, by rw [List.map_append]; exact HR.out.1, H2.out.trans HR.out.2.2⟩
    · have HR := Lib.hid (And.intro hJx3 (hkf hk3))
      clear hJx3 hk3 hkf
      gi_wp2
      exact ⟨HR.out.2, rfl, by rw [List.map_append]; exact HR.out.1⟩
end Go.Proofs.YtmnpchncmbnddaaGreat
/- slices.AppendSeq and slices.Collect over a chain's links. -/
namespace Go.Proofs.YtmnpchncmbnddaaGreat
open Go.RowKit Go.Shelf
attribute [local go_sem] Oper.semAt_some

theorem YieldAt.any4 {m m' l : Nat} {P : Program} {args : Array Value} {W : World} {R : Ending → World → Prop} (h : YieldAt Fence.wide m P l args W R) : YieldAt Fence.wide m' P l args W R := by
  obtain ⟨fn, tmps, assign, body, hy, hR⟩ := h
  exact ⟨fn, tmps, assign, body, hy, ⟨hR.1, fun c cs _ => hR.2 c cs (room_wide _)⟩⟩
theorem chAll_seq {w0 : World} {n bx g c : Nat} {A : Option Addr} {ls : List Lk} (hl : ls.length ≤ 1099511627776) (hcell : w0.cell? ⟨bx, 0, none⟩ = some (.pointer (some ⟨g, 0, none⟩))) (hg : w0.cell? ⟨g, 0, none⟩ = some (.slice A ls.length c)) (hr : Reads w0 w0.heap.size 3 A ls.length (lkCells ls)) :
    SeqN Fence.wide n Tryz.prog 159 #[.pointer (some ⟨bx, 0, none⟩)] Lk.encs (Lk.rd ls) (fun xs => xs = ls.reverse) (fun pre => pre <+: ls.reverse) w0 :=
  fun l J Jx W hW hJ hJx hY h0 => callsIn_wide.2 (callsIn_wide.1 (chAll1_any hl l J Jx W ((hW.cell (p := ⟨bx, 0, none⟩) (cell_lt hcell)).trans hcell) ((hW.cell (p := ⟨g, 0, none⟩) (cell_lt hg)).trans hg) ((hr.below hW).more hW.size) hJ hJx (fun n₁ pre x V h1 h2 h3 h4 => YieldAt.any4 (hY n₁ pre x V h1 h2 h3 h4)) h0))
def lkFrame (p s : Nat) (a : Act) (x : Lk) (k : Nat) : Act := { tmps := (a.tmps.setIfInBounds p x.agg).setIfInBounds s (.pointer (some ⟨k, 0, none⟩)), defers := [] }
theorem range_lk {p s : Nat} {F : Fence} {n : Nat} {P : Program} {g : Operand} {assign body : Code} {Q : Exit → Act → World → Prop} {a : Act} {w : World} (hro : F.round = none) (h1 : 1 ≤ n) {gf : Nat} {lb : Array Value} (hg : a.eval g = .func (.func gf) #[] lb) (hF : F.fn gf) (eg : ∀ args w, (callFunc gf args).run P w = .ok (.enter gf args) w)
    {S Sp : List Lk → Prop} {ls : List Lk} (hseq : SeqN F (n - 1) P gf lb Lk.encs (Lk.rd ls) S Sp w)
    (I : Nat → List Lk → World → Prop) (Ix : Nat → Code → List Lk → World → Prop) (hI : ∀ n₁, Go.OwnFrom w.heap.size (I n₁)) (hIx : ∀ n₁ c, Go.OwnFrom w.heap.size (Ix n₁ c)) (h0 : ∀ n₁ V, w.heap.size + 2 ≤ n₁ → n₁ ≤ V.heap.size → Below w.heap.size w V → I n₁ [] V)
    (hassign : ∀ (l : Nat) (x : Lk) (W : World) (K : Act → World → Prop), K (lkFrame p s a x W.heap.size) (W.alloc x.obj) →
      assign.wpIn (F.inRound l) (n - 1 - 1) P (Exit.then K (fun _ _ _ => False)) { tmps := a.tmps.setIfInBounds p x.agg, defers := [] } W)
    (hbody : ∀ (n₁ l k : Nat) (pre : List Lk) (x : Lk) (W : World), w.heap.size + 2 ≤ n₁ → n₁ ≤ k → W.heap[k]? = some x.obj → W.heap.size = k + 1 → I n₁ pre W → Lk.rd ls pre x W → body.wpIn (F.inRound l) (n - 1 - 1) P (ownPostG w.heap.size (Mid (w.heap.size + 2) n₁) (I n₁) (Ix n₁) (pre ++ [x]) W) (lkFrame p s a x k) W)
    (hdone : ∀ (n₁ D : Nat) (xs : List Lk) (W : World), w.heap.size ≤ D → S xs → I n₁ xs W → W.heap[D]? = some (.deferred (some [])) → Q .normal { a with defers := { target := .collected D, args := #[] } :: a.defers } W)
    (hstop : ∀ (n₁ D : Nat) (c : Code) (pre : List Lk) (W : World), w.heap.size ≤ D → Sp pre → Ix n₁ c pre W → W.heap[D]? = some (.deferred (some [])) → c.wpIn F n P Q { a with defers := { target := .collected D, args := #[] } :: a.defers } W) :
    (Code.rangeFunc g #[p] assign body).wpIn F n P Q a w :=
  range_n hro h1 hg hF eg hseq (Lk.rd_own _ _) (Below.refl _ _) (fun _ => rfl) I Ix hI hIx h0 (lkFrame p s a) Lk.obj (fun l x W K hK => by have h := hassign l x W K hK; simpa [Lk.encs] using h) hbody hdone hstop
theorem wpListIn_append_any {P : Program} {F : Fence} {N : Nat} {w : World} {ops : Array Oper} {rest : List Oper} {o : Oper} {a : Act} {Q : Exit → Act → World → Prop} {s xo : Operand} {t tx : TypeId} (hgd : o.guard = none)
    (ho : o.op = .call { callee := .builtin .append, args := #[s, xo], argTypes := #[t, tx] })
    (base : Nat) {e : TypeId} {z : Value} {size bytes : Nat} (ht : P.underlying t = some (.slice e)) (hinfo : (P.info? e).map (fun i => (i.zero, i.size, i.bytes)) = some (some z, size, bytes))
    (hzs : z.cells.size = size) (hsz : 0 < size) (hb0 : 0 < bytes)
    {v : Value} {n : Nat} {xs : List Value} (hs : a.eval s = v) (hown : w.ownsRow base e size v n xs)
    {x : Value} {m : Nat} {news : List Value} (hx : a.eval xo = x) (hsrc : Src P size tx x m news w)
    (hbytes : (n + m) * bytes ≤ 140737488355328) (hbase : base ≤ w.heap.size)
    (h : ∀ v' w', w'.ownsRow base e size v' (n + m) (xs ++ news) → w.grownBy w' v.ownBlock → (v'.ownBlock = v.ownBlock ∨ v'.ownBlock = some w.heap.size) → wpListIn F N P ops Q rest (a.put o.dst v') w') : wpListIn F N P ops Q (o :: rest) a w :=
  wpListIn_plain hgd fun _ hK => wpIn_append_any ho base ht hinfo hzs hsz hb0 hs hown hx hsrc hbytes hbase fun v' w' h2 h3 h4 => hK _ _ (h v' w' h2 h3 h4)
/-- What holds while AppendSeq appends. -/
def ColI (w : World) (B n₁ : Nat) (pre : List Lk) (V : World) : Prop :=
  (∃ v, Boxed V B 183 v ∧ V.ownsRow w.heap.size 135 3 v pre.length (lkCells pre) ∧ ∀ k, v.ownBlock = some k → n₁ ≤ k) ∧ Below w.heap.size w V
theorem colI_own {w : World} {B n₁ D : Nat} (hD : w.heap.size ≤ D) : Go.OwnFrom D (ColI w B n₁) := by
  rintro pre A A' row ⟨h1, h2⟩ hg hr
  exact ⟨(Go.Own.from (holdsRow_own w.heap.size B 183 135 3 List.length lkCells (fun _ v => ∀ k, v.ownBlock = some k → n₁ ≤ k)) D) pre A A' row h1 hg hr,
    h2.grown hg h2.size (fun k hk => Nat.le_trans hD (hr k hk).1)⟩
set_option maxRecDepth 100000 in
set_option maxHeartbeats 3200000 in
theorem lkseq_any {w : World} {bx g c : Nat} {A : Option Addr} {ls : List Lk} (hl : ls.length ≤ 1099511627776) (hcell : w.cell? ⟨bx, 0, none⟩ = some (.pointer (some ⟨g, 0, none⟩))) (hg : w.cell? ⟨g, 0, none⟩ = some (.slice A ls.length c)) (hr : Reads w w.heap.size 3 A ls.length (lkCells ls)) :
    Calls Tryz.prog 158 #[.slice none 0 0, .func (.func 159) #[] #[.pointer (some ⟨bx, 0, none⟩)]] w fun e w' => ∃ A' c', e = .returned (.slice A' ls.length c') ∧ w'.ownsRow w.heap.size 135 3 (.slice A' ls.length c') ls.length (lkCells ls.reverse) ∧ Below w.heap.size w w' := by
  obtain ⟨w2, hw2⟩ : ∃ w2, w2 = w.alloc (.cells #[.slice none 0 0] 183) := ⟨_, rfl⟩
  have hb2 : Below w.heap.size w w2 := by rw [hw2]; exact (Below.refl _ _).alloc (Nat.le_refl _) _
  have B2 := Lib.hid hb2
  have BX2 := Lib.hid (show Boxed w2 w.heap.size 183 (.slice none 0 0) from by rw [hw2]; exact Boxed.new _ _ _)
  have HSZ := Lib.hid (show w2.heap.size = w.heap.size + 1 from by rw [hw2]; simp)
  have HSEQ := chAll_seq (w0 := w2) (n := 5) hl ((hb2.cell (p := ⟨bx, 0, none⟩) (cell_lt hcell)).trans hcell) ((hb2.cell (p := ⟨g, 0, none⟩) (cell_lt hg)).trans hg) ((hr.below hb2).more hb2.size)
  have HW2 := Lib.hid hw2
  clear hcell hg hr hw2 hb2
  refine callsIn_wide.1 (callsIn_of_wp_marks (n := 6) Tryz.func158 rfl trivial ?_ rfl)
  simp only [Tryz.ntmps158, List.size_toArray, List.length_cons, List.length_nil, Nat.reduceAdd, Nat.reduceSub, Array.replicate_succ, Array.replicate_zero, List.push_toArray, List.append_toArray, List.nil_append, List.cons_append]
  gi_wp2_with fail
  rw [← HW2.out]
  refine range_lk (p := 7) (s := 5) (F := Fence.wide) (n := 6) rfl (by decide) rfl trivial (fun caps w => callFunc_enter 159 Tryz.f159 _ Tryz.func159 rfl (by kernel_rfl) caps w) HSEQ
    (ColI w w.heap.size) (fun _ _ _ _ => False) (fun n₁ => colI_own B2.out.size) ?hIx ?h0 ?hassign ?hbody ?hdone ?hstop
  case hIx => rintro n₁ c pre A B row h; exact h.elim
  case hstop => rintro n₁ D cc pre W' hD hpre h; exact h.elim
  case h0 =>
    intro n₁ V h1 h2 h3
    exact ⟨⟨.slice none 0 0, (h3.block _ (by have := HSZ.out; omega)).trans BX2.out, World.ownsRow_nil _ _ _ _, fun k hk => by cases hk⟩, B2.out.trans (h3.mono B2.out.size)⟩
  case hassign =>
    rintro l' ⟨⟨st, v, dd⟩, Av, cv⟩ W' K hK
    simp only [lkFrame, Lk.agg, Lk.obj, List.setIfInBounds_toArray, List.set_cons_zero, List.set_cons_succ] at hK ⊢
    gi_wp2
    exact hK
  case hdone =>
    rintro n₁ D xs W' hD rfl ⟨⟨v, h1, h2, h3⟩, h4⟩ hDD
    obtain ⟨A', c', rfl, _, _⟩ := own_slice h2
    have y0 := h1.cell
    rw [List.length_reverse] at h2 y0
    have H2 := Lib.hid h2
    have H4 := Lib.hid h4
    clear h1 h2 h3 h4
    gi_wp2
    refine marks_ret (v := .slice A' ls.length c') rfl hDD (fun w' => by simp [results, Tryz.results158]) ?_
    exact ⟨A', c', rfl, ownsRow_putObj H2.out _ hDD rfl, H4.out.grown (grownBy_putObj' W' D _) H4.out.size (fun k hk => by cases hk; exact Nat.le_trans B2.out.size hD)⟩
  case hbody =>
    rintro n₁ l' k pre ⟨⟨st, v, dd⟩, Av, cv⟩ W' hn1 hk hob hsz ⟨⟨vr, h1, h2, h3⟩, h4⟩ hrd
    obtain ⟨A', c', rfl, _, _⟩ := own_slice h2
    have hB : Blk W' k 135 #[.int .i64 st, .slice Av v.length cv, .bool dd] := hob
    have x0 := hB.cell 0
    have x1 := hB.cell 1
    have x2 := hB.cell 2
    simp at x0 x1 x2
    have y0 := h1.cell
    have H1 := Lib.hid h1
    have H2 := Lib.hid h2
    have H3 := Lib.hid h3
    have H4 := Lib.hid h4
    have HRD := Lib.hid hrd
    have hpl : pre.length + 1 ≤ 1099511627776 := by
      obtain ⟨r, hr⟩ := hrd
      have := congrArg List.length hr
      simp at this; omega
    clear h1 h2 h3 h4 hob hB hrd
    simp only [lkFrame, Lk.agg, List.setIfInBounds_toArray, List.set_cons_zero, List.set_cons_succ]
    gi_wp2_with (gi_at_builtin; refine wpListIn_append_any rfl rfl w.heap.size Tryz.underlying183 info_link rfl (by decide) (by decide) rfl (owns_below H2.out ((Below.refl _ _).alloc (Nat.le_refl _) _)) rfl (by rw [← hsz]; exact fresh_src (Blk.new W' 135 #[.int .i64 st, .slice Av v.length cv, .bool dd]) Tryz.underlying183 rfl (by decide) rfl) (by omega) (Nat.le_trans H4.out.size (by simp)) ?_; intro v' w' ho hgr hfr; obtain ⟨A2, c2, rfl, _, _⟩ := own_slice ho; have hbx := H1.out.appended (by decide) H2.out H4.out.size (Nat.le_refl _) ho hgr; have q1 := hbx.1.cell; have q2 := hbx.1.frozen; have HO := Lib.hid ho; have HG := Lib.hid hgr; have HF := Lib.hid hfr; have HBX := Lib.hid hbx; clear ho hgr hfr hbx)
    have hb := HBX.out
    have hg : (W'.alloc (.cells #[.int .i64 st, .slice Av v.length cv, .bool dd] 135)).grownBy w' (Value.slice A' pre.length c').ownBlock := HG.out
    refine ⟨hb.2.2.2.1.from _, ⟨hb.2.2.2.2.size, fun j h1 h2 => ?_⟩, ⟨⟨_, hb.2.1, ?_, fun j hj => ?_⟩, H4.out.trans hb.2.2.2.2⟩⟩
    · have hjs : j < W'.heap.size := by omega
      refine (Below.heap_setCell _ _ _ j (by have := HSZ.out; simp only; omega)).trans ((hg.block j (by simp; omega) fun e => ?_).trans (heap_alloc_old hjs))
      have := H3.out j e.symm
      omega
    · rw [List.length_append, lkCells_snoc]; exact hb.2.2.1
    · have hf : (Value.slice A2 (pre.length + 1) c2).ownBlock = (Value.slice A' pre.length c').ownBlock ∨ (Value.slice A2 (pre.length + 1) c2).ownBlock = some (W'.alloc (.cells #[.int .i64 st, .slice Av v.length cv, .bool dd] 135)).heap.size := HF.out
      rcases hf with hf | hf
      · exact H3.out j (hf.symm.trans hj)
      · rw [hf] at hj; injection hj with hj; rw [← hj]; simp; omega
set_option maxRecDepth 100000 in
theorem collect_any {w : World} {bx g c : Nat} {A : Option Addr} {ls : List Lk} (hl : ls.length ≤ 1099511627776) (hcell : w.cell? ⟨bx, 0, none⟩ = some (.pointer (some ⟨g, 0, none⟩))) (hg : w.cell? ⟨g, 0, none⟩ = some (.slice A ls.length c)) (hr : Reads w w.heap.size 3 A ls.length (lkCells ls)) :
    Calls Tryz.prog 101 #[.func (.func 159) #[] #[.pointer (some ⟨bx, 0, none⟩)]] w fun e w' => ∃ A' c', e = .returned (.slice A' ls.length c') ∧ w'.ownsRow w.heap.size 135 3 (.slice A' ls.length c') ls.length (lkCells ls.reverse) ∧ Below w.heap.size w w' := by
  have H := Lib.hid (lkseq_any hl hcell hg hr)
  obtain ⟨N, hN⟩ : ∃ N, N = ls.length := ⟨_, rfl⟩
  rw [← hN] at H ⊢
  clear hl hcell hg hr hN
  go_enter Tryz.func101, Tryz.ntmps101
  go_wp2_with fail
  refine H.out.mono ?_
  rintro e w1 ⟨A1, c1, rfl, h1, h2⟩
  have H1 := Lib.hid h1
  have H2 := Lib.hid h2
  clear h1 h2
  go_wp2
  go_ret
  exact ⟨A1, c1, rfl, H1.out, H2.out⟩
end Go.Proofs.YtmnpchncmbnddaaGreat
/- store.keys: the keys of a store, rising, by contract. -/
namespace Go.Proofs.YtmnpchncmbnddaaGreat
open Go.RowKit Go.Maps Go.Sort Go.Shelf

theorem sorts_lay (m : Nat) : AnyZ.SortsIn Tryz.prog Tryz.sortedL_ren Fence.wide m :=
  ⟨fun blk off cap ss W hH hblk hsz => callsIn_wide.2 (AnyM.slices_Sort_string Tryz.sortL blk off cap ss W hH hblk hsz),
   fun p cap W => callsIn_wide.2 (AnyM.slices_Sort_string_none Tryz.sortL p cap W)⟩
theorem mapkeys_any (mb : Option Nat) (W : World) : Calls Tryz.prog 157 #[.map mb] W fun e w' => e = .returned (.func (.func 207) #[] #[.pointer (some ⟨W.heap.size, 0, none⟩)]) ∧ w' = W.alloc (.cells #[.map mb] 164) :=
  callsIn_wide.1 (AnyZ.keys_in Tryz.keysL Fence.wide 5 trivial rfl mb W)
set_option maxHeartbeats 1000000 in
theorem sortedkeys_any {H : Type} (b nn : Nat) (D0 : DataW H) (R : Value → Option (DataW H × List MemPlace)) (w : World) (hown : w.ownsMap Tryz.prog 9 R b nn D0) (hmax : Maps.size D0 ≤ maxLen) (hbytes : Maps.size D0 * 16 ≤ 140737488355328) :
    Calls Tryz.prog 156 #[.func (.func 207) #[] #[.pointer (some ⟨w.heap.size, 0, none⟩)]] (w.alloc (.cells #[.map (some b)] 164)) fun e w' => ∃ (v : Value) (ss : List (List UInt8)), e = .returned v ∧ ss.Perm (strKeys D0) ∧
      w'.ownsRow (w.alloc (.cells #[.map (some b)] 164)).heap.size 9 1 v ss.length ((ss.mergeSort (fun x y => decide (x ≤ y))).map encStr) ∧ (v = .slice none 0 0 ↔ ss = []) ∧ Below (w.alloc (.cells #[.map (some b)] 164)).heap.size (w.alloc (.cells #[.map (some b)] 164)) w' := by
  have hbl := hown.lt
  have hseq : SeqGives Fence.wide 2 Tryz.prog 207 #[.pointer (some ⟨w.heap.size, 0, none⟩)] encStr (fun ss => ss.Perm (strKeys D0)) (Maps.size D0) (w.alloc (.cells #[.map (some b)] 164)) :=
    AnyZ.keys_gives (ρ := Tryz.keysL_ren) { Tryz.keysL with } Fence.wide _ trivial rfl (by omega) w.heap.size b nn D0 _ (by simp) (by simp) (by
      obtain ⟨es, clock, hb, Ft, hs, hD⟩ := hown
      exact ⟨es, clock, (Below.heap_alloc _ _ b hbl).trans hb, Ft, hs, hD⟩)
  exact (callsIn_wide (n := 5)).1 (AnyZ.sorted_in Tryz.sortedL Fence.wide 5 trivial trivial trivial trivial rfl (by omega) (sorts_lay _) (enters_of Tryz.func206 (by kernel_rfl) rfl) 207 #[.pointer (some ⟨w.heap.size, 0, none⟩)] trivial (enters_of Tryz.func207 (by kernel_rfl) rfl) _ _ hmax hbytes _ hseq)
/-! Keys that rise. -/
theorem bB_lt : ∀ {a b : Key}, bytesBefore a b = true ↔ a < b
  | [], [] => by simp [bytesBefore]
  | [], b :: y => by simp [bytesBefore]
  | a :: x, [] => by simp [bytesBefore]
  | a :: x, b :: y => by
    simp only [bytesBefore, Bool.or_eq_true, decide_eq_true_eq, Bool.and_eq_true, beq_iff_eq]
    rw [List.cons_lt_cons_iff, bB_lt (a := x) (b := y)]
def Rising {β : Type} (l : List (Key × β)) : Prop := l.Pairwise fun p q => bytesBefore p.1 q.1 = true
theorem rising_map {β γ : Type} {f : β → γ} {l : List (Key × β)} : Rising (mapA f l) ↔ Rising l := by
  unfold Rising mapA
  rw [List.pairwise_map]
theorem rising_apart {β : Type} {l : List (Key × β)} (h : Rising l) : Apart l := h.imp fun {a b} h e => by rw [e, bB_irrefl] at h; cases h
theorem rising_ins {β : Type} {x : Key × β} : ∀ {l : List (Key × β)}, Rising l → (∀ p ∈ l, p.1 ≠ x.1) → Rising (insA x l)
  | [], _, _ => List.pairwise_singleton _ _
  | y :: r, h, hn => by
    obtain ⟨h1, h2⟩ := List.pairwise_cons.1 h
    unfold insA
    split
    · rename_i hb
      refine List.pairwise_cons.2 ⟨fun p hp => ?_, h⟩
      rcases List.mem_cons.1 hp with rfl | hp
      · exact hb
      · exact bB_trans hb (h1 p hp)
    · rename_i hb
      have hy : bytesBefore y.1 x.1 = true := by
        rcases bB_total (a := y.1) (b := x.1) (hn y (List.mem_cons_self ..)) with h3 | h3
        · exact h3
        · exact absurd h3 hb
      refine List.pairwise_cons.2 ⟨fun p hp => ?_, rising_ins h2 (fun p hp => hn p (List.mem_cons_of_mem _ hp))⟩
      rcases List.mem_cons.1 ((insA_perm x r).mem_iff.1 hp) with rfl | hp
      · exact hy
      · exact h1 p hp
theorem rising_put {β : Type} {k : Key} {b : β} {l : List (Key × β)} (h : Rising l) : Rising (putA k b l) :=
  rising_ins (h.filter _) fun p hp => by
    have := (List.mem_filter.1 hp).2
    simp only [Bool.not_eq_true', beq_eq_false_iff_ne, ne_eq] at this
    exact this
theorem sorted_eq {l ss : List Key} (hp : ss.Perm l) (h : l.Pairwise fun a b => bytesBefore a b = true) : ss.mergeSort (fun x y => decide (x ≤ y)) = l := by
  have h1 := List.pairwise_mergeSort (le := fun x y : Key => decide (x ≤ y)) (fun a b c h1 h2 => by simp only [decide_eq_true_eq] at *; exact List.le_trans h1 h2) (fun a b => by simp only [Bool.or_eq_true, decide_eq_true_eq]; exact List.le_total a b) ss
  have h2 : (ss.mergeSort (fun x y => decide (x ≤ y))).Perm l := (List.mergeSort_perm ss _).trans hp
  refine h2.eq_of_pairwise (le := fun x y : Key => x ≤ y) (fun a b _ _ hab hba => List.le_antisymm hab hba) (h1.imp (fun h => of_decide_eq_true h)) (h.imp fun {a b} h => ?_)
  exact List.le_of_lt (bB_lt.1 h)
theorem strKeys_dS (m : List (Key × Nat)) : strKeys (dS m) = m.map Prod.fst := by
  unfold dS strKeys
  simp only [List.map_map]
  rfl
theorem size_dS (m : List (Key × Nat)) : Maps.size (dS m) = m.length := by
  unfold dS
  simp [Maps.size]
set_option maxRecDepth 100000 in
set_option maxHeartbeats 1600000 in
theorem skeys_any {w : World} {s : St} (h : s.item.P w) (hr : Rising s.cs) (hn : s.cs.length ≤ 1099511627776) :
    Calls Tryz.prog 100 #[.pointer (some ⟨s.gs, 0, none⟩)] w fun e w' => ∃ A c, e = .returned (.slice A s.cs.length c) ∧ w'.ownsRow w.heap.size 9 1 (.slice A s.cs.length c) s.cs.length (s.cs.map fun p => encStr p.1) ∧ Below w.heap.size w w' := by
  have hm : (Item.map s.gm (mapA Ch.g s.cs)).P w := Item.all_get h (List.mem_cons_of_mem _ (List.mem_cons_self ..))
  have hb : Blk w s.gs 166 #[.map (some s.gm), .int .i64 s.live] := Item.all_get h (List.mem_cons_self ..)
  have hml : (mapA Ch.g s.cs).length = s.cs.length := by unfold mapA; simp
  have hk : ((mapA Ch.g s.cs).map Prod.fst) = s.cs.map Prod.fst := by unfold mapA; simp [Function.comp_def]
  have HS := Lib.hid (sortedkeys_any s.gm _ _ chR w hm (by rw [size_dS, hml]; unfold maxLen; omega) (by rw [size_dS, hml]; omega))
  have HRI := Lib.hid (show (s.cs.map Prod.fst).Pairwise fun a b => bytesBefore a b = true from List.pairwise_map.2 hr)
  have HK := Lib.hid hk
  have B1 := Lib.hid ((Below.refl w.heap.size w).alloc (Nat.le_refl _) (.cells #[.map (some s.gm)] 164))
  have y0 := hb.cell 0
  simp at y0
  obtain ⟨gs, hgs⟩ : ∃ g, g = s.gs := ⟨_, rfl⟩
  rw [← hgs] at y0 ⊢
  clear hgs h hr hm hb hml hk
  go_enter Tryz.func100, Tryz.ntmps100
  go_wp2_with fail
  refine (mapkeys_any (some s.gm) w).mono ?_
  rintro e w1 ⟨rfl, rfl⟩
  go_wp2_with fail
  refine HS.out.mono ?_
  rintro e w2 ⟨v, ss, rfl, hp, ho, _, hb2⟩
  rw [strKeys_dS, HK.out] at hp
  rw [sorted_eq hp HRI.out] at ho
  have hl := hp.length_eq
  rw [List.length_map] at hl
  rw [hl] at ho
  obtain ⟨A, c, rfl, _, _⟩ := own_slice ho
  have HR := Lib.hid (show w2.ownsRow w.heap.size 9 1 (.slice A s.cs.length c) s.cs.length (s.cs.map fun p => encStr p.1) from by rw [List.map_map] at ho; exact ownsRow_base_a ho B1.out.size)
  have HB := Lib.hid (B1.out.trans (hb2.mono B1.out.size))
  clear hp ho hl hb2
  go_wp2
  go_ret
  exact ⟨A, c, rfl, HR.out, HB.out⟩
end Go.Proofs.YtmnpchncmbnddaaGreat
