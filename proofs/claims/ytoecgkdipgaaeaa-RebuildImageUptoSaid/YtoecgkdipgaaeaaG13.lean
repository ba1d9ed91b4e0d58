/- Contracts and plain laws that this claim leans on, laid together: Com4, ComP, Com5, Wal6, CFr. -/
import Derived.Test.YtoecgkdipgaaeaaG12
import Derived.Test.YtoecgkdipgaaeaaG10
set_option linter.all false
set_option linter.unusedVariables false
set_option linter.unusedSimpArgs false
set_option linter.unnecessarySimpa false
/- Commits: Entries, by contract. -/
namespace Go.Proofs.Ytoecgkdipgaaeaa
open Go.RowKit

/-- What a log is told of a commit. -/
def entsF (l : List Vn) (n : Int) : List En := l.map Vn.ofWrite ++ [⟨3, n, l.length, ⟨#[]⟩, [], false⟩]
def CEntsPost (l : List Vn) (n : Int) (w : World) (e : Ending) (w' : World) : Prop :=
  ∃ (ts : List Told) (A : Option Addr) (c : Nat), ts.map Told.x = entsF l n ∧ e = .returned (.slice A (l.length + 1) c) ∧
    Turn (Item.all []) w (Item.all (Item.rowT 31 6 (.slice A (l.length + 1) c) (l.length + 1) (toldCells ts) :: toldRows ts)) w'
set_option maxRecDepth 100000 in
set_option maxHeartbeats 3200000 in
theorem centries_any {w : World} {B : Nat} {A : Option Addr} {c : Nat} {l : List Vn} {n : Int} (hS : kVn.Sl w B A l) (hB : B ≤ w.heap.size) (hl : l.length ≤ 1099511627776) (hv : ∀ v ∈ l, v.value.length ≤ 140737488355328) :
    Calls Try.prog 13 #[.slice A l.length c, .int .i64 n] w (CEntsPost l n w) := by
  have HS := Lib.hid hS
  have HV := Lib.hid hv
  have HT0 := Lib.hid ((Turn.refl (x := Item.all []) (w := w) ⟨fun _ h => (by cases h), List.Pairwise.nil⟩).more (y := Item.rowT 31 6 (.slice none 0 0) 0 []) (Below.refl _ _) (World.ownsRow_nil _ _ _ _) (fun k hk => by cases hk))
  obtain ⟨N, hN⟩ : ∃ N, N = l.length := ⟨_, rfl⟩
  have HN := Lib.hid hN
  rw [← hN] at hl ⊢
  clear hS hv hN
  go_enter Try.func13, Try.ntmps13
  go_wp2
  go_loopw [10, 5] (fun t u wr => ∃ (K c' : Nat) (A' : Option Addr), t = .int .i64 K ∧ u = .slice A' K c' ∧ K ≤ N ∧ Hid (∃ ts : List Told, ts.length = K ∧ ts.map Told.x = (l.take K).map Vn.ofWrite ∧ Turn (Item.all []) w (Item.all (Item.rowT 31 6 (.slice A' K c') K (toldCells ts) :: toldRows ts)) wr)) (fun t _ _ => N - (intOf t).toNat)
  case atStart => exact ⟨0, 0, none, rfl, rfl, by omega, Lib.hid ⟨[], rfl, by simp, HT0.out⟩⟩
  case round =>
    obtain ⟨K, c', A', rfl, rfl, hK, hH⟩ := hrel
    clear HT0
    by_cases hlt : (K : Int) < (N : Int)
    · have hKN : K < l.length := by have := HN.out; omega
      have hKi : K + 1 ≤ N := by omega
      have hbw : Hid (Below w.heap.size w wr) := by obtain ⟨ts, _, _, hT⟩ := hH.out; exact Lib.hid hT.free
      obtain ⟨bb, off, Av, cv, hA, hbb, hints, s0, s1, s2, s3, hval, hvc⟩ := vn_at (HS.out.keep (fun p hp => hbw.out.cell (Nat.lt_of_lt_of_le hp hB))) hKN
      subst hA
      have hbr : bb < wr.heap.size := Nat.lt_of_lt_of_le hbb (Nat.le_trans hB hbw.out.size)
      have hvl := HV.out _ (List.getElem_mem hKN)
      obtain ⟨x, hx⟩ : ∃ x, x = l[K] := ⟨_, rfl⟩
      have HX := Lib.hid hx
      rw [← hx] at s0 s1 s2 s3 hval hvl
      obtain ⟨key, st, v, dd⟩ := x
      simp only at s0 s1 s2 s3 hval hvl
      have BA := Lib.hid ((Below.refl wr.heap.size wr).alloc (Nat.le_refl _) (.cells #[.string key, .int .i64 st, .slice Av v.length cv, .bool dd] 33))
      obtain ⟨W, hW⟩ : ∃ W, W = wr.alloc (.cells #[.string key, .int .i64 st, .slice Av v.length cv, .bool dd] 33) := ⟨_, rfl⟩
      have HW := Lib.hid hW
      have HVW : Hid (BReads W W.heap.size Av v) := Lib.hid (by
        rw [hW]
        exact (hval.more (Nat.le_trans hB hbw.out.size)).below BA.out |>.more BA.out.size)
      clear hx hints hval hvc hbb hW
      go_wp2_with fail
      rw [← HW.out] at BA ⊢
      refine (ofWrite_any (w := W) (A := Av) (c := cv) ⟨key, st, v, dd⟩ HVW.out hvl).mono ?_
      rintro e w2 ⟨A2, c2, rfl, ho, hb2⟩
      obtain ⟨E, hE⟩ : ∃ E, E = Vn.ofWrite ⟨key, st, v, dd⟩ := ⟨_, rfl⟩
      have HE := Lib.hid hE
      rw [← hE] at ho ⊢
      clear hE s0 s1 s2 s3
      obtain ⟨ts, h1, h2, h4⟩ := hH.out
      have T2 := Lib.hid ((h4.go BA.out).add (y := Item.row (.slice A2 E.value.length c2) E.value) hb2 (owns_less ho (Nat.zero_le _)) (fun k hk => (ho.lt hk).1))
      clear h4 hb2 ho BA
      obtain ⟨k, s, n', ky, vv, de⟩ := E
      rw [show (En.cells ⟨k, s, n', ky, vv, de⟩ A2 c2) = #[.int .i64 k, .int .i64 s, .int .i64 n', .string ky, .slice A2 vv.length c2, .bool de] from rfl]
      simp only at T2
      go_wp2_with (at_builtin; refine Stop.of ?_)
      have T3 := Lib.hid (T2.out.go ((Below.refl w2.heap.size w2).alloc (Nat.le_refl _) (.cells #[.int .i64 k, .int .i64 s, .int .i64 n', .string ky, .slice A2 vv.length c2, .bool de] 31)))
      refine ⟨wpList_append_any _ rfl rfl 0 Try.underlying25 Try.info31 rfl (by decide) (by decide) rfl (T3.out.get (i := 0) rfl) rfl (fresh_src (Blk.new w2 31 #[.int .i64 k, .int .i64 s, .int .i64 n', .string ky, .slice A2 vv.length c2, .bool de]) Try.underlying25 rfl (by decide) rfl) (by omega) (Nat.zero_le _) ?_⟩
      intro v' w3 ho hg hf
      have T4 := T3.out.step (i := 0) rfl (Turn.rowT (v := .slice A' K c') (n := K) (xs := toldCells ts) ho hg hf)
      obtain ⟨A3, c3, rfl, _, _⟩ := own_slice ho
      have HR := Lib.hid (show ∃ ts : List Told, ts.length = K + 1 ∧ ts.map Told.x = (l.take (K + 1)).map Vn.ofWrite ∧ Turn (Item.all []) w (Item.all (Item.rowT 31 6 (.slice A3 (K + 1) c3) (K + 1) (toldCells ts) :: toldRows ts)) w3 from
        ⟨ts ++ [⟨⟨k, s, n', ky, vv, de⟩, A2, c2⟩], by simp [h1], by
          rw [List.take_succ_eq_append_getElem hKN, List.map_append, List.map_append, h2, ← HX.out]
          show _ ++ [_] = _ ++ [Vn.ofWrite _]
          rw [← HE.out], by
          rw [toldCells_snoc, toldRows_snoc]
          exact T4.permR (List.Perm.cons _ (List.perm_append_singleton _ _).symm)⟩)
      clear h1 h2 T2 T3 T4 ho hg hf hH HVW HW HX HE
      go_wp2
      exact ⟨⟨K + 1, c3, A3, by go_num, rfl, hKi, HR⟩, by simp [intOf]; omega⟩
    · obtain rfl : K = N := by omega
      obtain ⟨ts, h1, h2, h4⟩ := hH.out
      have T0 := Lib.hid h4
      have H2 := Lib.hid h2
      clear hH h1 h2 h4
      go_wp2_with (at_builtin; refine Stop.of ?_)
      have T3 := Lib.hid ((T0.out.add (y := Item.row (.slice none 0 0) []) (Below.refl _ _) (BOwns.nil _ _) (fun k hk => by cases hk)).go ((Below.refl wr.heap.size wr).alloc (Nat.le_refl _) (.cells #[.int .i64 3, .int .i64 n, .int .i64 K, .string ⟨#[]⟩, .slice none 0 0, .bool false] 31)))
      refine ⟨wpList_append_any _ rfl rfl 0 Try.underlying25 Try.info31 rfl (by decide) (by decide) rfl (T3.out.get (i := 0) rfl) rfl (fresh_src (Blk.new wr 31 #[.int .i64 3, .int .i64 n, .int .i64 K, .string ⟨#[]⟩, .slice none 0 0, .bool false]) Try.underlying25 rfl (by decide) rfl) (by omega) (Nat.zero_le _) ?_⟩
      intro v' w3 ho hg hf
      have T4 := T3.out.step (i := 0) rfl (Turn.rowT (v := .slice A' K c') (n := K) (xs := toldCells ts) ho hg hf)
      obtain ⟨A3, c3, rfl, _, _⟩ := own_slice ho
      have HR := Lib.hid (show CEntsPost l n w (.returned (.slice A3 (K + 1) c3)) w3 from
        ⟨ts ++ [⟨⟨3, n, K, ⟨#[]⟩, [], false⟩, none, 0⟩], A3, c3, by
          unfold entsF
          rw [List.map_append, H2.out, HN.out, List.take_length]; rfl, by rw [HN.out], by
          rw [toldCells_snoc, toldRows_snoc, ← HN.out]
          exact T4.permR (List.Perm.cons _ (List.perm_append_singleton _ _).symm)⟩)
      clear T0 T3 T4 H2 ho hg hf
      go_wp2
      go_ret
      exact HR.out
end Go.Proofs.Ytoecgkdipgaaeaa
/- Commits: what the writes that are not refused are (no program). -/
namespace Go.Proofs.Ytoecgkdipgaaeaa
open Go.RowKit

theorem bytesLess_eq : ∀ a b : List UInt8, Op.bytesLess a b = bytesBefore a b
  | [], [] => rfl
  | [], _ :: _ => rfl
  | _ :: _, [] => rfl
  | a :: x, b :: y => by simp only [Op.bytesLess, bytesBefore]; rw [bytesLess_eq x y]
theorem bB_trans {a b c : Key} (h : bytesBefore a b = true) (h' : bytesBefore b c = true) : bytesBefore a c = true :=
  WideShapes.before_trans (a := .string a) (b := .string b) (c := .string c) h h'
theorem bB_irrefl (a : Key) : bytesBefore a a = false := WideShapes.before_irrefl (.string a)
theorem bB_total : ∀ {a b : Key}, a ≠ b → bytesBefore a b = true ∨ bytesBefore b a = true
  | [], [], h => absurd rfl h
  | [], _ :: _, _ => .inl rfl
  | _ :: _, [], _ => .inr rfl
  | a :: x, b :: y, h => by
    simp only [bytesBefore, Bool.or_eq_true, decide_eq_true_eq, Bool.and_eq_true, beq_iff_eq]
    by_cases hab : a = b
    · subst hab
      have hxy : x ≠ y := fun e => h (by rw [e])
      rcases bB_total hxy with h1 | h1
      · exact .inl (.inr ⟨rfl, h1⟩)
      · exact .inr (.inr ⟨rfl, h1⟩)
    · rcases Nat.lt_or_ge a.toNat b.toNat with h1 | h1
      · exact .inl (.inl h1)
      · refine .inr (.inl ?_)
        have : a.toNat ≠ b.toNat := fun e => hab (UInt8.toNat_inj.1 e)
        show b.toNat < a.toNat
        omega
def Vn.k (v : Vn) : Key := v.key.data.toList
theorem leB_eq (a b : Vn) : leB a.key b.key = (bytesBefore a.k b.k || a.k == b.k) := by
  unfold leB Vn.k
  rw [ByteArray.toList_eq, ByteArray.toList_eq, bytesLess_eq]
theorem not_leB {a b : Vn} (h : leB b.key a.key = false) : bytesBefore a.k b.k = true := by
  rw [leB_eq, Bool.or_eq_false_iff] at h
  have hne : b.k ≠ a.k := by
    have := h.2
    simpa using this
  rcases bB_total hne with h1 | h1
  · rw [h.1] at h1; cases h1
  · exact h1
/-- The keys rise. -/
theorem rises : ∀ {l : List Vn}, ¬ Falls l → l.Pairwise fun a b => bytesBefore a.k b.k = true
  | [], _ => List.Pairwise.nil
  | [_], _ => List.pairwise_singleton _ _
  | a :: b :: r, h => by
    have h2 := rises (l := b :: r) (fun ⟨i, hi, hl⟩ => h ⟨i + 1, by simp only [List.length_cons] at hi ⊢; omega, by simpa using hl⟩)
    have hab : bytesBefore a.k b.k = true := not_leB (by
      cases hl : leB b.key a.key with
      | false => rfl
      | true => exact absurd ⟨0, by simp, by simpa using hl⟩ h)
    refine List.pairwise_cons.2 ⟨fun c hc => ?_, h2⟩
    rcases List.mem_cons.1 hc with rfl | hc
    · exact hab
    · exact bB_trans hab ((List.pairwise_cons.1 h2).1 c hc)
/-- A store, plainly: of each key its versions. -/
abbrev PS := List (Key × List Lv)
def ofP (S : PS) (k : Key) : List Lv := (getA k S).getD []
def applyP (S : PS) (v : Vn) : PS := putA v.k (ofP S v.k ++ [⟨v.stamp, v.value, v.dead⟩]) S
def applyL (S : PS) (l : List Vn) (n : Int) : PS := l.foldl (fun S v => applyP S { v with stamp := n }) S
theorem ofO_vs (s : St) (k : Key) : (Ch.ofO (getA k s.cs)).map Lk.x = ofP s.view k := by
  unfold ofP St.view
  rw [getA_map]
  cases getA k s.cs <;> rfl
theorem view_put {s : St} {v : Vn} {c : Ch} {l : Lk} {lv : Int} (hc : c.ls = Ch.ofO (getA v.k s.cs) ++ [l]) (hl : l.x = ⟨v.stamp, v.value, v.dead⟩) : St.view ⟨s.gs, s.gm, lv, putA v.k c s.cs⟩ = applyP s.view v := by
  unfold St.view applyP
  rw [putA_map]
  congr 1
  show c.ls.map Lk.x = _
  rw [hc, List.map_append, ofO_vs, List.map_singleton, hl]; rfl
theorem of_put_other {S : PS} {k k' : Key} {b : List Lv} (h : k ≠ k') : ofP (putA k b S) k' = ofP S k' := by
  have : getA k' (putA k b S) = getA k' S := by
    unfold putA
    have h1 : ∀ L : List (Key × List Lv), getA k' (insA (k, b) L) = getA k' L := by
      intro L
      induction L with
      | nil => unfold insA getA; simp [h]
      | cons y r ih =>
        unfold insA
        split
        · unfold getA; rw [List.find?_cons_of_neg (by simpa using h)]
        · unfold getA at ih ⊢
          by_cases hy : y.1 = k'
          · rw [List.find?_cons_of_pos (by simpa using hy), List.find?_cons_of_pos (by simpa using hy)]
          · rw [List.find?_cons_of_neg (by simpa using hy), List.find?_cons_of_neg (by simpa using hy)]; exact ih
    rw [h1]
    unfold othersA
    induction S with
    | nil => rfl
    | cons y r ih =>
      by_cases hy : y.1 = k
      · rw [List.filter_cons_of_neg (by simpa using hy), ih]
        unfold getA
        rw [List.find?_cons_of_neg (by simp [hy, h])]
      · rw [List.filter_cons_of_pos (by simpa using hy)]
        unfold getA at ih ⊢
        by_cases hy' : y.1 = k'
        · rw [List.find?_cons_of_pos (by simpa using hy'), List.find?_cons_of_pos (by simpa using hy')]
        · rw [List.find?_cons_of_neg (by simpa using hy'), List.find?_cons_of_neg (by simpa using hy')]; exact ih
  unfold ofP
  rw [this]
theorem of_put_same {S : PS} {k : Key} {b : List Lv} : ofP (putA k b S) k = b := by
  unfold ofP
  rw [getA_put]; rfl
theorem asked_0 {so : Option St} {now since : Int} {l : List Vn} (h : askedF so now l since = 0) :
    ¬ Falls l ∧ 0 ≤ since ∧ since ≤ now ∧ (∀ v ∈ l, v.unfit = 0) ∧ (∀ v ∈ l, aboveV so now v = false) ∧ (∀ v ∈ l, aboveV so since v = false) ∧ now ≠ 4611686018427387904 := by
  unfold askedF at h
  split at h
  · rename_i h1; exact absurd h h1
  rename_i h1
  split at h
  · cases h
  rename_i h2
  split at h
  · rename_i h3; exact absurd h h3
  rename_i h3
  split at h
  · cases h
  rename_i h4
  split at h
  · cases h
  rename_i h5
  split at h
  · cases h
  rename_i h6
  refine ⟨fun hf => h1 (by unfold mayF; rw [if_pos hf]; decide), by omega, by omega, ?_, ?_, ?_, h6⟩
  · intro v hv
    have h3' : fitsF l = 0 := Decidable.not_not.1 h3
    unfold fitsF at h3'
    cases hf : l.find? (fun v => decide (v.unfit ≠ 0)) with
    | none =>
      rw [List.find?_eq_none] at hf
      have := hf v hv
      simpa using this
    | some x =>
      rw [hf] at h3'
      have := List.find?_some hf
      simp only at h3'
      simp [h3'] at this
  · intro v hv
    cases ha : aboveV so now v with
    | false => rfl
    | true => exact absurd (List.any_eq_true.2 ⟨v, hv, ha⟩) h4
  · intro v hv
    cases ha : aboveV so since v with
    | false => rfl
    | true => exact absurd (List.any_eq_true.2 ⟨v, hv, ha⟩) h5
theorem unfit_0 {v : Vn} (h : v.unfit = 0) : 1 ≤ v.key.size ∧ v.key.size ≤ 255 ∧ v.value.length ≤ 4096 ∧ (v.dead = true → v.value.length = 0) := by
  unfold Vn.unfit at h
  split at h
  · cases h
  · split at h
    · cases h
    · rename_i h1 h2
      refine ⟨by omega, by omega, by omega, fun hd => ?_⟩
      have : ¬ 0 < v.value.length := fun hl => h2 (.inr ⟨hd, hl⟩)
      omega
theorem bad_stamped {v : Vn} {n : Int} (h : v.unfit = 0) (h0 : 0 ≤ n) (h1 : n ≤ 4611686018427387904) : Vn.bad { v with stamp := n } = 0 := by
  obtain ⟨a, b, c, d⟩ := unfit_0 h
  unfold Vn.bad
  simp only
  rw [if_neg (by omega), if_neg, if_neg (by omega)]
  rintro (h' | ⟨h', h''⟩)
  · omega
  · have := d h'; omega
theorem ents_may {l : List Vn} {n : Int} (h : ∀ v ∈ l, v.unfit = 0) (h0 : 0 ≤ n) (h1 : n ≤ 4611686018427387904) (hl : l.length ≤ 2147483647) : ∀ e ∈ entsF l n, e.may := by
  intro e he
  rcases List.mem_append.1 he with he | he
  · obtain ⟨v, hv, rfl⟩ := List.mem_map.1 he
    obtain ⟨a, b, c, d⟩ := unfit_0 (h v hv)
    unfold Vn.ofWrite
    split
    · rw [may_2]; exact ⟨a, b, rfl, rfl, rfl, rfl⟩
    · rw [may_1]; exact ⟨a, b, rfl, rfl, rfl, c⟩
  · simp only [List.mem_cons, List.not_mem_nil, or_false] at he
    subst he
    rw [may_m (.inl rfl)]
    exact ⟨rfl, h0, h1, by omega, by omega, rfl, rfl⟩
end Go.Proofs.Ytoecgkdipgaaeaa
/- Commits: Do, by contract. -/
namespace Go.Proofs.Ytoecgkdipgaaeaa
open Go.RowKit

/-- The versions of a key, and its chain. -/
theorem applyL_snoc {S : PS} {l : List Vn} {n : Int} {K : Nat} (h : K < l.length) : applyL S (l.take (K + 1)) n = applyP (applyL S (l.take K) n) { l[K] with stamp := n } := by
  unfold applyL
  rw [List.take_succ_eq_append_getElem h, List.foldl_append]; rfl
theorem applyL_other {n : Int} {k : Key} : ∀ {l : List Vn} {S : PS}, (∀ v ∈ l, v.k ≠ k) → ofP (applyL S l n) k = ofP S k
  | [], _, _ => rfl
  | v :: r, S, h => by
    show ofP (applyL (applyP S { v with stamp := n }) r n) k = _
    rw [applyL_other (fun x hx => h x (List.mem_cons_of_mem _ hx))]
    exact of_put_other (h v (List.mem_cons_self ..))
/-- The newest of versions. -/
def lastP (L : List Lv) : Int := (L.getLast?.map Lv.st).getD 0
theorem lastL_vs (ls : List Lk) : (lastL ls).x.st = lastP (ls.map Lk.x) := by
  unfold lastL lastP
  rw [List.getLast?_map]
  cases ls.getLast? <;> rfl
theorem above_view {s : St} {since : Int} {v : Vn} : aboveV (some s) since v = (decide (0 < (ofP s.view v.k).length) && decide (since < lastP (ofP s.view v.k))) := by
  unfold aboveV
  rw [lastL_vs, show St.getO (some s) v.key = getA v.k s.cs from rfl, ofO_vs, ← ofO_vs, List.length_map]
/-- Nothing refuses the write. -/
theorem err_0 {s : St} {v : Vn} {now n : Int} (hu : v.unfit = 0) (hn0 : 0 ≤ n) (hn1 : n ≤ 4611686018427387904) (hnow : now < n) (ha : (decide (0 < (ofP s.view v.k).length) && decide (now < lastP (ofP s.view v.k))) = false) : s.errOf { v with stamp := n } = 0 := by
  unfold St.errOf
  rw [if_neg (by rw [bad_stamped hu hn0 hn1]; simp), if_neg]
  rintro ⟨h1, h2⟩
  rw [Bool.and_eq_false_iff] at ha
  have h1' : 0 < (ofP s.view v.k).length := by rw [← ofO_vs, List.length_map]; exact h1
  rcases ha with h | h
  · exact absurd h1' (of_decide_eq_false h)
  · have h3 := of_decide_eq_false h
    rw [lastL_vs] at h2
    have h2' : n ≤ lastP (ofP s.view v.k) := by rw [← ofO_vs]; exact h2
    omega
def DoPost (s : St) (gc : Nat) (now wd : Int) (gl g gp : Nat) (p : Pt) (l : List Vn) (since : Int) (N : Nat) (w : World) (e : Ending) (w' : World) : Prop :=
  l = [] ∧ e = .returned (.tuple #[.int .i64 0, .int .i64 0]) ∧ Below w.heap.size w w' ∨
  l ≠ [] ∧ askedF (some s) now l since ≠ 0 ∧ e = .returned (.tuple #[.int .i64 0, .int .i64 (askedF (some s) now l since)]) ∧ Below w.heap.size w w' ∨
  l ≠ [] ∧ askedF (some s) now l since = 0 ∧ e = .returned (.tuple #[.int .i64 (now + 1), .int .i64 0]) ∧ ∃ (s' : St) (q : Pt), s'.gs = s.gs ∧ s'.gm = s.gm ∧ s'.ok (N + l.length) ∧ s'.view = applyL s.view l (now + 1) ∧
    q.a.base = p.a.base ∧ q.a.safe = (p.a.l ++ framesF (entsF l (now + 1))).length ∧ q.a.l = p.a.l ++ framesF (entsF l (now + 1)) ∧ q.done = p.done + (l.length + 1) + 1 ∧
    Turn (Item.all [s.item, Item.clk gc now wd, lg gl g gp false p]) w (Item.all [s'.item, Item.clk gc (now + 1) wd, lg gl g gp false q]) w'
set_option maxRecDepth 100000 in
set_option maxHeartbeats 6400000 in
theorem do_any {w : World} {s : St} {gc : Nat} {now wd : Int} {gl g gp : Nat} {p : Pt} {N : Nat} (hP : (Item.all [s.item, Item.clk gc now wd, lg gl g gp false p]).P w) (hok : s.ok N) (hnow0 : 0 ≤ now) (hnow1 : now ≤ 4611686018427387904) (hd0 : 0 ≤ p.done) (hd1 : p.done ≤ 100000000000000000)
    {A : Option Addr} {c : Nat} {l : List Vn} {since : Int} (hS : Stays (Item.all [s.item, Item.clk gc now wd, lg gl g gp false p]).own w (fun w' => kVn.Sl w' w.heap.size A l)) (hks : ∀ v ∈ l, v.key.size ≤ maxLen ∧ v.value.length ≤ 140737488355328) (hl : N + l.length ≤ 1000000000)
    (htot : p.a.l.length + 5009 * (l.length + 1) ≤ 140737488355328) :
    Calls Try.prog 18 #[.pointer (some ⟨s.gs, 0, none⟩), .pointer (some ⟨gc, 0, none⟩), .pointer (some ⟨gl, 0, none⟩), .slice A l.length c, .int .i64 since] w (DoPost s gc now wd gl g gp p l since N w) := by
  have HP := Lib.hid hP
  have HOK := Lib.hid hok
  have HS := Lib.hid hS
  have HKS := Lib.hid hks
  have hSl := hS.self
  have hsP : s.item.P w := Item.all_get hP (by simp)
  have hcP : (Item.clk gc now wd).P w := Item.all_get hP (by simp)
  have HAS := Lib.hid (asked_any (so := some s) (gc := gc) (now := now) (wd := wd) (c := c) (since := since) (hok.o (by omega) hsP) hcP hSl (Nat.le_refl _) (by omega) (fun v hv => (hks v hv).1))
  rw [show ptrS (some s) = .pointer (some ⟨s.gs, 0, none⟩) from rfl] at HAS
  obtain ⟨R, hR⟩ : ∃ R, R = askedF (some s) now l since := ⟨_, rfl⟩
  have HR := Lib.hid hR
  rw [← hR] at HAS
  obtain ⟨n, hn⟩ : ∃ n, n = l.length := ⟨_, rfl⟩
  have HN := Lib.hid hn
  rw [← hn] at HAS hl htot ⊢
  have HD := Lib.hid (show 0 ≤ p.done ∧ p.done ≤ 100000000000000000 ∧ p.a.l.length + 5009 * (n + 1) ≤ 140737488355328 from ⟨hd0, hd1, htot⟩)
  have HNL := Lib.hid hl
  have HNW := Lib.hid (show 0 ≤ now ∧ now ≤ 4611686018427387904 from ⟨hnow0, hnow1⟩)
  have hnb : n ≤ 1000000000 := by omega
  clear hP hok hS hks hSl hsP hcP hR hn hd0 hd1 htot hl hnow0 hnow1
  go_enter Try.func18, Try.ntmps18
  rcases Nat.eq_zero_or_pos n with h0 | h0
  · have hl0 : l = [] := List.eq_nil_of_length_eq_zero (by rw [← HN.out]; exact h0)
    have HL0 := Lib.hid hl0
    subst h0
    clear hl0 hnb
    go_wp2
    go_ret2
    exact Or.inl ⟨HL0.out, rfl, Below.refl _ _⟩
  · have HL1 : Hid (l ≠ []) := Lib.hid (fun e => by have := HN.out; rw [e] at this; simp at this; omega)
    have d0 : decide ((n : Int) = 0) = false := decide_eq_false (by omega)
    have d0' : decide (n = 0) = false := decide_eq_false (by omega)
    go_wp2_with fail
    refine HAS.out.mono ?_
    rintro e w1 ⟨rfl, hb1⟩
    have B1 := Lib.hid hb1
    clear hb1 HAS
    by_cases hr0 : R = 0
    case neg =>
      have dr : decide (R = 0) = false := decide_eq_false hr0
      go_wp2
      go_ret2
      exact Or.inr (Or.inl ⟨HL1.out, by rw [← HR.out]; exact hr0, by rw [← HR.out]; rfl, B1.out⟩)
    case pos =>
      subst hr0
      obtain ⟨f1, f2, f3, f4, f5, f6, f7⟩ := asked_0 HR.out.symm
      have HF1 := Lib.hid f1
      have HF4 := Lib.hid f4
      have HF5 := Lib.hid f5
      have HM0 := Lib.hid (show 0 ≤ now + 1 ∧ now + 1 ≤ 4611686018427387904 from by have := HNW.out; omega)
      have HMAY := Lib.hid (ents_may (l := l) (n := now + 1) f4 HM0.out.1 HM0.out.2 (by have := HN.out; omega))
      have HNOW := Lib.hid (cnow_any (w := w1) (Item.go (x := Item.clk gc now wd) (Item.all_get HP.out (by simp)) B1.out))
      have HENT := Lib.hid (centries_any (w := w1) (n := now + 1) (c := c) ((HS.out.self).below B1.out) B1.out.size (by have := HN.out; omega) (fun v hv => (HKS.out v hv).2))
      rw [← HN.out] at HENT
      have hw1 : now < 4611686018427387904 := by have := HNW.out; omega
      have hw0 : 0 ≤ now := HNW.out.1
      clear f1 f2 f3 f4 f5 f6 f7
      go_wp2_with fail
      refine HNOW.out.mono ?_
      rintro e w2 ⟨rfl, rfl⟩
      go_wp2_with fail
      refine HENT.out.mono ?_
      rintro e w2 ⟨ts, AE, cE, hts, rfl, tE⟩
      have T2 := Lib.hid (((Turn.refl HP.out).go B1.out).join tE)
      have hel : (entsF l (now + 1)).length = n + 1 := by unfold entsF; rw [List.length_append, List.length_map, HN.out]; rfl
      have htl : ts.length = n + 1 := by rw [← hel, ← hts, List.length_map]
      rw [← HN.out] at tE T2 ⊢
      have HG : Hid (Calls Try.prog 49 #[.pointer (some ⟨gl, 0, none⟩), .slice AE (n + 1) cE] w2 fun e w' => e = .returned (.int .i64 0) ∧ ∃ q : Pt, q.a.base = p.a.base ∧ q.a.safe = (p.a.l ++ framesF (entsF l (now + 1))).length ∧ q.a.l = p.a.l ++ framesF (entsF l (now + 1)) ∧ q.done = p.done + (n + 1 : Nat) + 1 ∧ Turn (lg gl g gp false p) w2 (lg gl g gp false q) w') := Lib.hid (by
        have hx := (T2.out.permR (M := lg gl g gp false p :: s.item :: Item.clk gc now wd :: (Item.rowT 31 6 (.slice AE (n + 1) cE) (n + 1) (toldCells ts) :: toldRows ts)) (by
          exact ((List.Perm.swap _ _ _).cons _).trans (List.Perm.swap _ _ _))).p
        have hst := stays_row (A := AE) (c := cE) (n := n + 1) (ts := ts) hx (by simp) htl.symm (stays_rows hx (fun t ht => ⟨may_ints (HMAY.out _ (by rw [← hts]; exact List.mem_map.2 ⟨t, ht, rfl⟩)), by
          simp only [List.mem_cons]
          exact .inr (.inr (.inr (List.mem_map.2 ⟨t, ht, rfl⟩)))⟩))
        rw [hts] at hst
        have := group_ok (c := cE) (es := entsF l (now + 1)) (Item.all_get hx (List.mem_cons_self ..)) HD.out.1 HD.out.2.1 hst HMAY.out (by rw [hel]; exact HD.out.2.2)
        rw [hel] at this
        exact this)
      clear tE hts hel htl
      go_wp2_with fail
      refine HG.out.mono ?_
      rintro e w3 ⟨rfl, q, q1, q2, q3, q4, tL⟩
      have HQ := Lib.hid (And.intro q1 (And.intro q2 (And.intro q3 q4)))
      have T3 := Lib.hid ((T2.out.step (i := 2) rfl tL).sub (M := [s.item, Item.clk gc now wd, lg gl g gp false q]) (List.Sublist.cons_cons _ (List.Sublist.cons_cons _ (List.Sublist.cons_cons _ (List.nil_sublist _)))))
      have HNX := Lib.hid (cnext_any (w := w3) (g := gc) (n := now) (k := wd) (T3.out.get (i := 1) rfl) hw0 hw1)
      clear q1 q2 q3 q4 tL HG T2 HENT HNOW
      go_wp2_with fail
      refine HNX.out.mono ?_
      rintro e w4 ⟨rfl, tC⟩
      have T4 : Hid (Turn (Item.all [s.item, Item.clk gc now wd, lg gl g gp false p]) w (Item.all [s.item, Item.clk gc (now + 1) wd, lg gl g gp false q]) w4) := Lib.hid (T3.out.step (i := 1) rfl tC)
      obtain ⟨n1, hn1⟩ : ∃ n1, n1 = now + 1 := ⟨_, rfl⟩
      have HN1 := Lib.hid hn1
      rw [← hn1] at T4 ⊢
      clear tC HNX T3 hn1 hw1 hw0
      go_wp2
      go_loopw [60] (fun t wr => ∃ (K : Nat) (s' : St), t = .int .i64 K ∧ K ≤ n ∧ s'.gs = s.gs ∧ s'.gm = s.gm ∧ Hid (s'.ok (N + K) ∧ s'.view = applyL s.view (l.take K) n1 ∧ Turn (Item.all [s.item, Item.clk gc now wd, lg gl g gp false p]) w (Item.all [s'.item, Item.clk gc n1 wd, lg gl g gp false q]) wr)) (fun t _ => n - (intOf t).toNat)
      case atStart => exact ⟨0, s, rfl, Nat.zero_le _, rfl, rfl, Lib.hid ⟨HOK.out, rfl, T4.out⟩⟩
      case round =>
        obtain ⟨K, s', rfl, hK, hgs, hgm, hH⟩ := hrel
        clear T4
        by_cases hlt : (K : Int) < (n : Int)
        · have hKN : K < l.length := by have := HN.out; omega
          have hKi : K + 1 ≤ n := by omega
          have HSw := Lib.hid (HS.out.at_ hH.out.2.2.k)
          obtain ⟨bb, off, Av, cv, hA, hbb, hints, s0, s1, s2, s3, hval, hvc⟩ := vn_at HSw.out hKN
          subst hA
          have hbr : bb < wr.heap.size := Nat.lt_of_lt_of_le hbb hH.out.2.2.k.size
          have hun := HF4.out _ (List.getElem_mem hKN)
          have hab := HF5.out _ (List.getElem_mem hKN)
          have hrs : ofP s'.view (l[K]).k = ofP s.view (l[K]).k := by
            rw [hH.out.2.1]
            refine applyL_other fun x hx => ?_
            intro e
            have hp := rises HF1.out
            rw [List.pairwise_iff_getElem] at hp
            obtain ⟨i, hi, rfl⟩ := List.mem_iff_getElem.1 hx
            rw [List.length_take] at hi
            have h1 := hp i K (by omega) hKN (by omega)
            rw [List.getElem_take] at e
            rw [e, bB_irrefl] at h1
            cases h1
          have herr : s'.errOf { l[K] with stamp := n1 } = 0 := err_0 (now := now) hun (by rw [HN1.out]; exact HM0.out.1) (by rw [HN1.out]; exact HM0.out.2) (by rw [HN1.out]; omega) (by rw [hrs, ← above_view]; exact hab)
          have hsn := applyL_snoc (S := s.view) (n := n1) hKN
          have hkv := HKS.out _ (List.getElem_mem hKN)
          obtain ⟨x, hx⟩ : ∃ x, x = l[K] := ⟨_, rfl⟩
          rw [← hx] at s0 s1 s2 s3 hval hsn herr hkv
          obtain ⟨key, st, v, dd⟩ := x
          simp only at s0 s1 s2 s3 hval hsn herr hkv
          have HER := Lib.hid herr
          have HSN := Lib.hid hsn
          obtain ⟨W, hW⟩ : ∃ W, W = wr.alloc (.cells #[.string key, .int .i64 n1, .slice Av v.length cv, .bool dd] 33) := ⟨_, rfl⟩
          have HW := Lib.hid hW
          have BA : Hid (Below wr.heap.size wr W) := Lib.hid (by rw [hW]; exact (Below.refl _ _).alloc (Nat.le_refl _) _)
          have HAP := Lib.hid (apply_any (w := W) (s := s') (N := N + K) (Item.go (Item.all_get hH.out.2.2.p (by simp)) BA.out) hH.out.1 (by have := HNL.out; omega) (A := Av) (c := cv) ⟨key, n1, v, dd⟩ (((hval.more hH.out.2.2.k.size).below BA.out).more BA.out.size) hkv.1 hkv.2)
          rw [hgs] at HAP
          have TW := Lib.hid (hH.out.2.2.go BA.out)
          have HVW := Lib.hid hH.out.2.1
          clear hx hints hval hvc hbb hun hab hrs herr hsn hkv hW hH
          go_wp2_with fail
          rw [← HW.out]
          refine HAP.out.mono ?_
          rintro e w5 ⟨rfl, h | ⟨_, c5, l5, lv5, hc5, hl5, hok5, t5⟩⟩
          · exact absurd HER.out h.1
          rw [HER.out]
          have HNEW := Lib.hid (show (St.mk s'.gs s'.gm lv5 (putA key.data.toList c5 s'.cs)).ok (N + (K + 1)) ∧ (St.mk s'.gs s'.gm lv5 (putA key.data.toList c5 s'.cs)).view = applyL s.view (l.take (K + 1)) n1 ∧ Turn (Item.all [s.item, Item.clk gc now wd, lg gl g gp false p]) w (Item.all [St.item ⟨s'.gs, s'.gm, lv5, putA key.data.toList c5 s'.cs⟩, Item.clk gc n1 wd, lg gl g gp false q]) w5 from
            ⟨hok5, by rw [HSN.out, ← HVW.out]; exact view_put (v := ⟨key, n1, v, dd⟩) hc5 hl5, TW.out.step (i := 0) rfl t5⟩)
          clear hc5 hl5 hok5 t5 TW HVW HSN HER HAP BA HW s0 s1 s2 s3 HSw
          go_wp2
          exact ⟨⟨K + 1, St.mk s'.gs s'.gm lv5 (putA key.data.toList c5 s'.cs), by go_num, hKi, hgs, hgm, HNEW⟩, by simp [intOf]; omega⟩
        · have hKe : K = n := by omega
          subst hKe
          have HR2 := Lib.hid (show DoPost s gc now wd gl g gp p l since N w (.returned (.tuple #[.int .i64 n1, .int .i64 0])) wr from
            Or.inr (Or.inr ⟨HL1.out, HR.out.symm, by rw [HN1.out], s', q, hgs, hgm, by rw [← HN.out]; exact hH.out.1, by have := hH.out.2.1; rw [HN.out, List.take_length, HN1.out] at this; exact this, HQ.out.1, HQ.out.2.1, HQ.out.2.2.1, by rw [HQ.out.2.2.2, HN.out]; omega, by rw [← HN1.out]; exact hH.out.2.2⟩))
          clear hH
          go_wp2
          go_ret2
          exact HR2.out
end Go.Proofs.Ytoecgkdipgaaeaa
/- The laws' walFixed, by contract: a row of calls whose answers are fixed. -/
namespace Go.Proofs.Ytoecgkdipgaaeaa
open Go.RowKit

def fxA : En := ⟨1, 0, 0, ⟨#[107]⟩, [7], false⟩
def fxB : En := ⟨3, 1, 1, ⟨#[]⟩, [], false⟩
def fxC : En := ⟨9, 0, 0, ⟨#[]⟩, [], false⟩
theorem fxA_may : fxA.may := by unfold fxA En.may; rw [if_pos rfl]; decide
theorem fxB_may : fxB.may := by unfold fxB En.may; rw [if_neg (by decide), if_neg (by decide), if_pos (by decide)]; decide
theorem fxC_may : ¬ fxC.may := by simp [fxC, En.may]
theorem fxA_len : fxA.enc.length = 5 := by
  have h1 : intF 1 = [2] := by unfold intF; first | (rw [shortF_small (by decide)]; rfl) | (simp [zigF, shortF_small])
  have : fxA.enc = [1] ++ intF 1 ++ [107] ++ intF 1 ++ [7] := rfl
  rw [this, h1]; rfl
theorem fxB_len : fxB.enc.length = 3 := by
  have h1 : intF 1 = [2] := by unfold intF; first | (rw [shortF_small (by decide)]; rfl) | (simp [zigF, shortF_small])
  have : fxB.enc = [3] ++ intF 1 ++ intF 1 := rfl
  rw [this, h1]; rfl
theorem fx1_len : (framesF [fxA]).length = 14 := by
  have h : framesF [fxA] = frameF fxA.enc ++ [] := rfl
  rw [h, List.append_nil, frameF_len, fxA_len]
theorem fx2_len : (framesF [fxA, fxB]).length = 26 := by
  have h : framesF [fxA, fxB] = frameF fxA.enc ++ (frameF fxB.enc ++ []) := rfl
  rw [h, List.append_nil, List.length_append, frameF_len, frameF_len, fxA_len, fxB_len]
theorem fx_offs : offsF 0 [fxA, fxB] = [14, 26] := by simp [offsF, endsF, fxA_len, fxB_len]
theorem fx_may : ∀ e ∈ [fxA, fxB], e.may := fun e he => by
  simp only [List.mem_cons, List.not_mem_nil, or_false] at he
  rcases he with rfl | rfl
  · exact fxA_may
  · exact fxB_may
theorem D_one {w w' : World} {d : Dk} (ha : d.armed = false) (hl : d.ps.length = 1) (hp : ∀ p ∈ d.ps, p = freshPt p.a.g) : ∃ g gp ga, d = ⟨g, gp, false, [freshPt ga]⟩ := by
  obtain ⟨g, gp, ar, ps⟩ := d
  obtain ⟨p, rfl⟩ := List.length_eq_one_iff.1 hl
  have := hp p (by simp)
  simp only at ha
  subst ha
  exact ⟨g, gp, p.a.g, by rw [← this]⟩
end Go.Proofs.Ytoecgkdipgaaeaa
/- Law 19: the references' New, by contract. -/
namespace Go.Proofs.Ytoecgkdipgaaeaa
open Go.RowKit

/-- Pieces in another order. -/
theorem Turn.by_ {a : Item} {w w' : World} {L : List Item} (t : Turn a w (Item.all L) w') (n : Nat) (hn : L.length = n) (is : List Nat) (h : is.Perm (List.range n)) : Turn a w (Item.all (is.map fun i => L.getD i Item.none)) w' := by
  subst hn
  refine t.permR ?_
  have := (h.map fun i => L.getD i Item.none).symm
  rwa [show (List.range L.length).map (fun i => L.getD i Item.none) = L from List.ext_getElem (by simp) (fun i h1 h2 => by simp at h1 h2 ⊢; rw [List.getElem?_eq_getElem h2]; rfl)] at this
set_option maxRecDepth 100000 in
set_option maxHeartbeats 1600000 in
theorem rcnew_any {w : World} {n k : Int} (h0 : 0 ≤ n) (h1 : n ≤ 4611686018427387904) (h2 : 0 ≤ k) (h3 : k ≤ 1048576) : Calls Try.prog 46 #[.int .i64 n, .int .i64 k] w fun e w' => e = .returned (.tuple #[.agg #[.bool true, .int .i64 n, .int .i64 k], .int .i64 0]) ∧ Below w.heap.size w w' := by
  have KA := Lib.hid (Blk.new w 46 #[.bool false, .int .i64 0, .int .i64 0])
  have BA := Lib.hid ((Below.refl w.heap.size w).alloc (Nat.le_refl _) (.cells #[.bool false, .int .i64 0, .int .i64 0] 46))
  have d0 : decide (n < 0) = false := decide_eq_false (by omega)
  have d1 : decide (4611686018427387904 < n) = false := decide_eq_false (by omega)
  have d2 : decide (k < 0) = false := decide_eq_false (by omega)
  have d3 : decide (1048576 < k) = false := decide_eq_false (by omega)
  clear h0 h1 h2 h3
  go_enter Try.func46, Try.ntmps46
  go_wp2
  exact bodyPost_ret (v := .tuple #[.agg #[.bool true, .int .i64 n, .int .i64 k], .int .i64 0]) (by simp [results, Try.results46, go_sem]) rfl ⟨rfl, (Below.refl w.heap.size w).alloc (Nat.le_refl _) _⟩
theorem info_area : (Try.prog.info? 228).map (fun i => (i.zero.map Value.cells, i.size, i.bytes)) = some (some #[.int .i64 0, .int .i64 0, .int .i64 0, .slice none 0 0, .int .i64 0, .int .i64 0, .int .u8 0], 7, 72) := by kernel_rfl
def areaZ : Array Value := #[.int .i64 0, .int .i64 0, .int .i64 0, .slice none 0 0, .int .i64 0, .int .i64 0, .int .u8 0]
set_option maxRecDepth 100000 in
set_option maxHeartbeats 1600000 in
theorem rdnew_one {w : World} : Calls Try.prog 47 #[.int .i64 1] w fun e w' => ∃ g, e = .returned (.tuple #[.agg #[.slice (some ⟨g, 0, none⟩) 1 1, .bool false], .int .i64 0]) ∧ Turn (Item.all []) w (Item.all [Item.blk g 228 areaZ]) w' := by
  obtain ⟨i0, hi0, hi1⟩ := Option.map_eq_some_iff.1 info_area
  simp only [Prod.mk.injEq] at hi1
  obtain ⟨hz, hs, hby⟩ := hi1
  obtain ⟨z, hz0, hzc⟩ := Option.map_eq_some_iff.1 hz
  have hm : ∀ w : World, (Instr.makeSlice 47 (.int .i64 1) (.int .i64 1)).run Try.prog w = .ok (.slice (some ⟨w.heap.size, 0, none⟩) 1 1) (w.alloc (.cells areaZ 228)) := by
    intro w
    have := run_makeSlice (P := Try.prog) w 47 228 i0 z Try.underlying47 hi0 hz0 .i64 .i64 1 1 (by omega) (Int.le_refl _) (by rw [hs]; omega) (by rw [hby]; omega) (by omega)
    rw [hs, hzc] at this
    refine this.trans ?_
    have e : madeCells #[.int .i64 0, .int .i64 0, .int .i64 0, .slice none 0 0, .int .i64 0, .int .i64 0, .int .u8 0] (Int.toNat 1 * 7) = areaZ := by
      apply Array.ext'
      unfold madeCells areaZ
      simp only [Array.toList_map, Array.toList_range]
      rfl
    rw [e]; rfl
  have hr := hm (w.alloc (.cells #[.slice none 0 0, .bool false] 49))
  clear hz hs hby hz0 hzc hi0 hm
  have T := Lib.hid ((((Turn.none_ (w := w)).go ((Below.refl w.heap.size w).alloc (Nat.le_refl _) (.cells #[.slice (some ⟨w.heap.size + 1, 0, none⟩) 1 1, .bool false] 49))).more (y := Item.blk (w.alloc (.cells #[.slice (some ⟨w.heap.size + 1, 0, none⟩) 1 1, .bool false] 49)).heap.size 228 areaZ) ((Below.refl _ _).alloc (Nat.le_refl _) (.cells areaZ 228)) (Blk.new _ _ _) (fun k hk => Nat.le_of_eq hk.symm)))
  go_enter Try.func47, Try.ntmps47
  go_wp2
  have K := (Blk.new w 49 #[.slice (some ⟨w.heap.size + 1, 0, none⟩) 1 1, .bool false]).alloc (.cells areaZ 228)
  have q0 := K.cell 0
  have q1 := K.cell 1
  simp at q0 q1
  exact bodyPost_ret (v := .tuple #[.agg #[.slice (some ⟨w.heap.size + 1, 0, none⟩) 1 1, .bool false], .int .i64 0]) (by simp [results, Try.results47, go_sem, q0, q1]) rfl ⟨_, rfl, by have := T.out; rwa [show (w.alloc (.cells #[.slice (some ⟨w.heap.size + 1, 0, none⟩) 1 1, .bool false] 49)).heap.size = w.heap.size + 1 from by simp] at this⟩
/-- A world of the law: the program's objects, and the document's. -/
def wldCells (gs gc g gl gd : Nat) (S : Value) (now wd : Int) (ar : Bool) : Array Value := #[.pointer (some ⟨gs, 0, none⟩), .pointer (some ⟨gc, 0, none⟩), .pointer (some ⟨g, 0, none⟩), .pointer (some ⟨gl, 0, none⟩), S, .bool true, .int .i64 now, .int .i64 wd, .slice (some ⟨gd, 0, none⟩) 1 1, .bool ar]
set_option maxRecDepth 100000 in
set_option maxHeartbeats 3200000 in
theorem fresh_any {w : World} {n k : Int} (h0 : 0 ≤ n) (h1 : n ≤ 4611686018427387904) (h2 : 0 ≤ k) (h3 : k ≤ 1048576) : Calls Try.prog 17 #[.int .i64 n, .int .i64 k] w fun e w' => ∃ gs gm gc g gp ga gl gw gd, e = .returned (.pointer (some ⟨gw, 0, none⟩)) ∧ (St.mk gs gm 0 []).ok 0 ∧
    Turn (Item.all []) w (Item.all [St.item ⟨gs, gm, 0, []⟩, Item.clk gc n k, lg gl g gp false (freshPt ga), Item.blk gw 53 (wldCells gs gc g gl gd (.slice none 0 0) n k false), Item.blk gd 228 areaZ]) w' := by
  have H := Lib.hid (And.intro h0 (And.intro h1 (And.intro h2 h3)))
  clear h0 h1 h2 h3
  go_enter Try.func17, Try.ntmps17
  go_wp2_with fail
  refine (cnew_any (w := w) H.out.1 H.out.2.1 H.out.2.2.1 H.out.2.2.2).mono ?_
  rintro e w1 ⟨gc, rfl, t1⟩
  have T1 := Lib.hid t1.one
  clear t1
  go_wp2_with fail
  refine (dNew_any (w := w1) 1 (by decide) (by decide)).mono ?_
  rintro e w2 ⟨d, d1, d2, d3, rfl, t2⟩
  obtain ⟨g, gp, ga, rfl⟩ := D_one (w := w) (w' := w) d1 d2 d3
  have T2 := Lib.hid (T1.out.join t2.one)
  clear d1 d2 d3 t2 T1
  go_wp2_with fail
  refine (snew_any (w := w2)).mono ?_
  rintro e w3 ⟨gs, gm, rfl, hok, t3⟩
  have T3 := Lib.hid (T2.out.join t3.one)
  have HOK := Lib.hid hok
  clear t3 T2 hok
  go_wp2_with fail
  refine (lOpen_any (d := ⟨g, gp, false, [freshPt ga]⟩) (T3.out.get (i := 1) rfl) (by simp) 0 rfl (by simp [freshPt]) (by simp [freshPt]) (by simp [freshPt]) (by simp [freshPt])).mono ?_
  rintro e w4 ⟨gl, hgl, rfl, hk, hb⟩
  have T4 := Lib.hid ((T3.out.more hb (y := Item.blk gl 141 (logCells ⟨g, gp, false, [freshPt ga]⟩ 0)) hk (fun k e => by cases e; exact hgl)))
  clear hk hb T3 hgl
  go_wp2_with fail
  refine (rcnew_any (w := w4) H.out.1 H.out.2.1 H.out.2.2.1 H.out.2.2.2).mono ?_
  rintro e w5 ⟨rfl, hb5⟩
  have T5 := Lib.hid (T4.out.go hb5)
  have K6 := Lib.hid (Blk.new w5 46 #[.bool true, .int .i64 n, .int .i64 k])
  have T6 := Lib.hid (T5.out.go ((Below.refl _ _).alloc (Nat.le_refl _) (.cells #[.bool true, .int .i64 n, .int .i64 k] 46)))
  obtain ⟨w6, hw6⟩ : ∃ w6, w6 = w5.alloc (.cells #[.bool true, .int .i64 n, .int .i64 k] 46) := ⟨_, rfl⟩
  have HW6 := Lib.hid hw6
  clear hb5 T4 T5 hw6
  go_wp2_with fail
  rw [← HW6.out] at T6 K6 ⊢
  refine (rdnew_one (w := w6)).mono ?_
  rintro e w7 ⟨gd, rfl, t7⟩
  have K7 := Lib.hid (K6.out.below' t7.free)
  have T7 := Lib.hid (T6.out.join t7)
  have x0 := K7.out.cell 0
  have x1 := K7.out.cell 1
  have x2 := K7.out.cell 2
  simp at x0 x1 x2
  have hl7 := K7.out.lt
  clear t7 T6 K6
  go_wp2
  go_ret
  exact ⟨gs, gm, gc, g, gp, ga, gl, w7.heap.size + 1, gd, rfl, HOK.out, by
    have T8 := (T7.out.go ((Below.refl w7.heap.size w7).alloc (Nat.le_refl _) (.cells #[.slice (some ⟨gd, 0, none⟩) 1 1, .bool false] 49))).more (y := Item.blk (w7.alloc (.cells #[.slice (some ⟨gd, 0, none⟩) 1 1, .bool false] 49)).heap.size 53 (wldCells gs gc g gl gd (.slice none 0 0) n k false)) ((Below.refl _ _).alloc (Nat.le_refl _) (.cells (wldCells gs gc g gl gd (.slice none 0 0) n k false) 53)) (Blk.new _ _ _) (fun k hk => Nat.le_of_eq hk.symm)
    rw [show (w7.alloc (.cells #[.slice (some ⟨gd, 0, none⟩) 1 1, .bool false] 49)).heap.size = w7.heap.size + 1 from by simp] at T8
    exact (((T8.by_ 6 rfl [1, 3, 4, 2, 0, 5] (by decide)).sameR (Item.Same.symm (same_flat (L := [_, _])))).by_ 5 rfl [1, 2, 0, 3, 4] (by decide))⟩
end Go.Proofs.Ytoecgkdipgaaeaa
