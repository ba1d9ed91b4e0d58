/- Contracts and plain laws that this claim leans on, laid together: RefS5, RefS6, RefS7, RefS8, Rrp. -/
import Derived.Test.YtmnpchncmbnddaaG14
import Derived.Test.YtmnpchncmbnddaaG13
set_option linter.all false
set_option linter.unusedVariables false
set_option linter.unusedSimpArgs false
set_option linter.unnecessarySimpa false
/- The reference's store: Versions, the plain law. -/
namespace Go.Proofs.Ytmnpchncmbnddaa
open Go.RowKit

/-- The oldest version of a key behind a stamp, as the reference finds it. -/
def selV (k : Key) (s : Int) (b : Option Vn) (v : Vn) : Option Vn := if v.k = k ∧ s < v.stamp ∧ (∀ x, b = some x → v.stamp < x.stamp) then some v else b
def selL (l : List Vn) (k : Key) (s : Int) : Option Vn := l.foldl (selV k s) none
theorem selL_snoc {l : List Vn} {k : Key} {s : Int} {K : Nat} (h : K < l.length) {x : Vn} (hx : x = l[K]) : selL (l.take (K + 1)) k s = selV k s (selL (l.take K) k s) x := by
  subst hx
  unfold selL
  rw [List.take_succ_eq_append_getElem h, List.foldl_append]; rfl
/-- The versions of a key. -/
def ofK (l : List Vn) (k : Key) : List Vn := l.filter fun v => v.k == k
theorem sel_ofK (k : Key) (s : Int) : ∀ (l : List Vn) (b : Option Vn), l.foldl (selV k s) b = (ofK l k).foldl (selV k s) b
  | [], _ => rfl
  | v :: l, b => by
    unfold ofK
    by_cases h : v.k = k
    · rw [List.filter_cons_of_pos (by simpa using h)]
      exact sel_ofK k s l _
    · rw [List.filter_cons_of_neg (by simpa using h), List.foldl_cons, show selV k s b v = b from if_neg (fun hh => h hh.1)]
      exact sel_ofK k s l b
theorem sel_some {k : Key} {s : Int} : ∀ {f : List Vn} {x : Vn}, (∀ v ∈ f, x.stamp < v.stamp) → f.foldl (selV k s) (some x) = some x
  | [], _, _ => rfl
  | v :: f, x, h => by
    rw [List.foldl_cons, show selV k s (some x) v = some x from if_neg (fun hh => by
      have h1 := hh.2.2 x rfl
      have h2 := h v (List.mem_cons_self ..)
      omega)]
    exact sel_some (fun y hy => h y (List.mem_cons_of_mem _ hy))
theorem sel_find {k : Key} {s : Int} : ∀ {f : List Vn}, (∀ v ∈ f, v.k = k) → (f.Pairwise fun a b => a.stamp < b.stamp) → f.foldl (selV k s) none = f.find? fun v => decide (s < v.stamp)
  | [], _, _ => rfl
  | v :: f, hk, hp => by
    obtain ⟨p1, p2⟩ := List.pairwise_cons.1 hp
    rw [List.foldl_cons]
    by_cases h : s < v.stamp
    · rw [show selV k s none v = some v from if_pos ⟨hk v (List.mem_cons_self ..), h, fun x hx => by cases hx⟩, List.find?_cons_of_pos (by simpa using h)]
      exact sel_some p1
    · rw [show selV k s none v = none from if_neg (fun hh => h hh.2.1), List.find?_cons_of_neg (by simpa using h)]
      exact sel_find (fun y hy => hk y (List.mem_cons_of_mem _ hy)) p2
/-- The stamp behind which the reference asks, so many versions of the key being told. -/
def stAt (f : List Vn) : Nat → Int
  | 0 => -1
  | j + 1 => (f[j]?.map Vn.stamp).getD 0
theorem stAt_succ {f : List Vn} {m : Nat} (h : m < f.length) : stAt f (m + 1) = f[m].stamp := by
  show (f[m]?.map Vn.stamp).getD 0 = _
  rw [List.getElem?_eq_getElem h]; rfl
theorem find_at {f : List Vn} (hp : f.Pairwise fun a b => a.stamp < b.stamp) (h0 : ∀ v ∈ f, 0 ≤ v.stamp) {j : Nat} (hj : j ≤ f.length) : (f.find? fun v => decide (stAt f j < v.stamp)) = f[j]? := by
  have hlow : ∀ i (h : i < f.length), i < j → ¬ stAt f j < f[i].stamp := by
    intro i h hij
    obtain ⟨m, rfl⟩ : ∃ m, j = m + 1 := ⟨j - 1, by omega⟩
    rw [stAt_succ (show m < f.length by omega)]
    rcases Nat.lt_or_ge i m with h2 | h2
    · have := List.pairwise_iff_getElem.1 hp i m h (by omega) h2; omega
    · have : i = m := by omega
      subst this; omega
  have hup : ∀ (h : j < f.length), stAt f j < f[j].stamp := by
    intro h
    cases j with
    | zero => have := h0 f[0] (List.getElem_mem _); show (-1 : Int) < _; omega
    | succ m =>
      rw [stAt_succ (show m < f.length by omega)]
      exact List.pairwise_iff_getElem.1 hp m (m + 1) (by omega) h (by omega)
  rcases Nat.lt_or_ge j f.length with h | h
  · rw [List.getElem?_eq_getElem h]
    conv => lhs; rw [← List.take_append_drop j f]
    rw [List.find?_append, List.find?_eq_none.2 (fun v hv => by
      obtain ⟨i, hi, rfl⟩ := List.mem_iff_getElem.1 hv
      rw [List.length_take] at hi
      rw [List.getElem_take]
      have := hlow i (by omega) (by omega)
      simpa using this), List.drop_eq_getElem_cons h, List.find?_cons_of_pos (by have := hup h; simpa using this)]
    rfl
  · rw [List.getElem?_eq_none h, List.find?_eq_none.2 (fun v hv => by
      obtain ⟨i, hi, rfl⟩ := List.mem_iff_getElem.1 hv
      have := hlow i hi (by omega)
      simpa using this)]
theorem selL_at {l : List Vn} {k : Key} (hp : (ofK l k).Pairwise fun a b => a.stamp < b.stamp) (h0 : ∀ v ∈ l, 0 ≤ v.stamp) {j : Nat} (hj : j ≤ (ofK l k).length) : selL l k (stAt (ofK l k) j) = (ofK l k)[j]? := by
  unfold selL
  rw [sel_ofK, sel_find (fun v hv => by have := (List.mem_filter.1 hv).2; simpa using this) hp]
  exact find_at hp (fun v hv => h0 v (List.mem_filter.1 hv).1) hj
/-- All versions, by key and stamp. -/
def versR (l : List Vn) : List Vn := (keysR l).flatMap (ofK l)
/-- Versions of a row, each with the place of its value, and where that value can be read. -/
def Hv.okAt (w : World) (B : Nat) (t : Hv) : Prop := t.x.ints ∧ BReads w B t.A t.x.value ∧ t.x.value.length ≤ t.c
end Go.Proofs.Ytmnpchncmbnddaa
/- The reference's store: Versions, the walk. -/
namespace Go.Proofs.Ytmnpchncmbnddaa
open Go.RowKit Go.Sort

theorem ofK_cons (v : Vn) (l : List Vn) (k : Key) : (ofK (v :: l) k).length = (ofK l k).length + if v.k = k then 1 else 0 := by
  unfold ofK
  by_cases h : v.k = k
  · rw [List.filter_cons_of_pos (by simpa using h), if_pos h, List.length_cons]
  · rw [List.filter_cons_of_neg (by simpa using h), if_neg h, Nat.add_zero]
theorem one_of (x : Key) : ∀ {ks : List Key}, ks.Nodup → (ks.map fun k => if x = k then 1 else 0).sum ≤ 1
  | [], _ => Nat.zero_le _
  | k :: ks, h => by
    obtain ⟨h1, h2⟩ := List.nodup_cons.1 h
    rw [List.map_cons, List.sum_cons]
    by_cases e : x = k
    · subst e
      have : (ks.map fun k => if x = k then 1 else 0).sum = 0 := by
        have : (ks.map fun k => if x = k then 1 else 0) = ks.map fun _ => 0 := List.map_congr_left fun k hk => if_neg (fun (e : x = k) => h1 (by rw [e]; exact hk))
        rw [this]
        clear h1 h2 h this
        induction ks with
        | nil => rfl
        | cons a r ih => rw [List.map_cons, List.sum_cons, ih]
      rw [if_pos rfl, this]
      exact Nat.le_refl _
    · rw [if_neg e]
      have := one_of x h2
      omega
theorem sum_add (f g : Key → Nat) : ∀ (ks : List Key), (ks.map fun k => f k + g k).sum = (ks.map f).sum + (ks.map g).sum
  | [] => rfl
  | k :: ks => by rw [List.map_cons, List.map_cons, List.map_cons, List.sum_cons, List.sum_cons, List.sum_cons, sum_add f g ks]; omega
theorem flat_len {ks : List Key} (h : ks.Nodup) : ∀ (l : List Vn), (ks.flatMap (ofK l)).length ≤ l.length
  | [] => by
    rw [List.length_flatMap]
    have : (ks.map fun k => (ofK [] k).length) = ks.map fun _ => 0 := List.map_congr_left fun k _ => rfl
    rw [this]
    clear h this
    induction ks with
    | nil => exact Nat.le_refl _
    | cons a r ih => rw [List.map_cons, List.sum_cons]; simpa using ih
  | v :: l => by
    have h1 := flat_len h l
    rw [List.length_flatMap] at h1 ⊢
    have h2 : (ks.map fun k => (ofK (v :: l) k).length) = ks.map fun k => (ofK l k).length + (if v.k = k then 1 else 0) := List.map_congr_left fun k _ => ofK_cons v l k
    rw [h2, sum_add]
    have := one_of v.k h
    rw [List.length_cons]
    omega
theorem ddK_len (l : List Key) : (ddK l).length ≤ l.length := by
  generalize hn : l.length = n
  induction n generalizing l with
  | zero => rw [List.length_eq_zero_iff.1 hn]; exact Nat.le_refl _
  | succ n ih =>
    rcases List.eq_nil_or_concat l with rfl | ⟨m, k, rfl⟩
    · cases hn
    · rw [List.concat_eq_append] at hn ⊢
      have hm : m.length = n := by rw [List.length_append, List.length_singleton] at hn; omega
      have := ih m hm
      rw [ddK_snoc]
      split
      · omega
      · rw [List.length_append, List.length_singleton]; omega
theorem keysR_len (l : List Vn) : (keysR l).length ≤ l.length := by
  have := ddK_len (sortK (l.map Vn.k))
  rw [sortK_len, List.length_map] at this
  exact this
def lenV : Value → Nat
  | .slice _ n _ => n
  | _ => 0
/-- What is told so far. -/
def VerIn (w : World) (B : Nat) (KI : Item) (out : List Vn) (m c3 : Nat) (A3 : Option Addr) (wr : World) : Prop :=
  ∃ ts : List Hv, ts.map Hv.x = out ∧ ts.length = m ∧ (∀ t ∈ ts, t.okAt w B) ∧ Turn (Item.all []) w (Item.all [KI, Item.rowT 88 4 (.slice A3 m c3) m (hvCells ts)]) wr
/-- The best so far lies in its variable. -/
def BstIn (w : World) (B : Nat) (l : List Vn) (k : Key) (s : Int) (KI : Item) (A3 : Option Addr) (m c3 : Nat) (ts : List Hv) (g7 K : Nat) (b : Bool) (wr : World) : Prop :=
  ∃ (A : Option Addr) (c : Nat), b = (selL (l.take K) k s).isSome ∧ (∀ y, selL (l.take K) k s = some y → (⟨y, A, c⟩ : Hv).okAt w B) ∧ Turn (Item.all []) w (Item.all [KI, Item.rowT 88 4 (.slice A3 m c3) m (hvCells ts), Item.blk g7 88 (((selL (l.take K) k s).getD vz).cells A c)]) wr
def RvPost (l : List Vn) (B : Nat) (w : World) (e : Ending) (w' : World) : Prop :=
  ∃ (A' : Option Addr) (n c' : Nat) (ts : List Hv), n = (versR l).length ∧ e = .returned (.slice A' n c') ∧ ts.map Hv.x = versR l ∧ (∀ t ∈ ts, t.okAt w B) ∧ Turn (Item.all []) w (Item.all [Item.rowT 88 4 (.slice A' n c') n (hvCells ts)]) w'
set_option maxRecDepth 100000 in
set_option maxHeartbeats 25600000 in
theorem rversions_any {w : World} {B : Nat} {A : Option Addr} {c : Nat} {l : List Vn} (hS : kVn.Sl w B A l) (hB : B ≤ w.heap.size) (hl : l.length ≤ 1000000000) (hp : ∀ k, (ofK l k).Pairwise fun a b => a.stamp < b.stamp) (h0 : ∀ v ∈ l, 0 ≤ v.stamp) :
    Calls Try.prog 16 #[.slice A l.length c] w (RvPost l B w) := by
  have HS := Lib.hid hS
  have HB0 := Lib.hid hB
  have HP := Lib.hid hp
  have H0 := Lib.hid h0
  have HKE := Lib.hid (rkeys_any (c := c) hS hB hl)
  have HFL := Lib.hid (flat_len ((keysR_up l).imp fun {a b} h e => by rw [e, bB_irrefl] at h; cases h) l)
  obtain ⟨N, hN⟩ : ∃ N, N = l.length := ⟨_, rfl⟩
  have HN := Lib.hid hN
  rw [← hN] at hl HKE ⊢
  clear hS hB hN hp h0
  go_enter Try.func16, Try.ntmps16
  go_wp2_with fail
  refine HKE.out.mono ?_
  rintro e w1 ⟨AK, n, cK, hn, rfl, t1⟩
  obtain ⟨ks, hks⟩ : ∃ ks, ks = keysR l := ⟨_, rfl⟩
  have HKS := Lib.hid hks
  rw [← hks] at hn t1
  have HNK := Lib.hid hn
  have hnb : n ≤ 1000000000 := by
    have h1 := keysR_len l
    rw [← hks] at h1
    have := HN.out
    omega
  obtain ⟨KI, hKI⟩ : ∃ KI, KI = Item.rowT 9 1 (.slice AK n cK) n (ks.map encStr) := ⟨_, rfl⟩
  have HKI := Lib.hid hKI
  rw [← hKI] at t1
  have T1 := Lib.hid (show VerIn w B KI ((ks.take 0).flatMap (ofK l)) 0 0 none w1 from ⟨[], rfl, rfl, fun _ h => (by cases h), (t1.more (y := Item.rowT 88 4 (.slice none 0 0) 0 []) (Below.refl _ _) (World.ownsRow_nil _ _ _ _) (fun k hk => by cases hk)).by_ 2 rfl [1, 0] (by decide)⟩)
  clear HKE hn t1 hks hKI
  go_wp2
  go_loopw [14, 3] (fun t u wr => ∃ (i m c3 : Nat) (A3 : Option Addr), t = .int .i64 i ∧ u = .slice A3 m c3 ∧ i ≤ n ∧ Hid (VerIn w B KI ((ks.take i).flatMap (ofK l)) m c3 A3 wr)) (fun t _ _ => n - (intOf t).toNat)
  case atStart => exact ⟨0, 0, 0, none, rfl, rfl, Nat.zero_le _, T1⟩
  case round =>
    clear T1
    obtain ⟨i, m, c3, A3, rfl, rfl, hi, hH⟩ := hrel
    by_cases hlt : (i : Int) < (n : Int)
    · have hil : i < ks.length := by have := HNK.out; omega
      have hii : i + 1 ≤ n := by omega
      obtain ⟨kk, hkk⟩ : ∃ k, k = ks[i] := ⟨_, rfl⟩
      have r0 : ∃ bb off, AK = some ⟨bb, off, none⟩ ∧ wr.cell? ⟨bb, off + i, none⟩ = some (.string ⟨kk.toArray⟩) := by
        obtain ⟨ts, _, _, _, hT⟩ := hH.out
        have hk : (Item.rowT 9 1 (.slice AK n cK) n (ks.map encStr)).P wr := HKI.out ▸ hT.get (i := 0) rfl
        obtain ⟨bb, off, hA, _, hcell⟩ := (Reads.of_own hk).2 (by omega)
        exact ⟨bb, off, hA, hcell i _ (by rw [List.getElem?_map, List.getElem?_eq_getElem hil, hkk]; rfl)⟩
      obtain ⟨kb, ko, hA, r0⟩ := r0
      subst hA
      have HTK := Lib.hid (show (ks.take (i + 1)).flatMap (ofK l) = (ks.take i).flatMap (ofK l) ++ ofK l kk from by rw [List.take_succ_eq_append_getElem hil, List.flatMap_append, ← hkk]; simp)
      have HTL := Lib.hid (show ((ks.take (i + 1)).flatMap (ofK l)).length ≤ N from by
        have h1 := HFL.out
        rw [← HKS.out, ← List.take_append_drop (i + 1) ks, List.flatMap_append, List.length_append] at h1
        rw [HN.out]
        omega)
      obtain ⟨pre, hpre⟩ : ∃ p, p = (ks.take i).flatMap (ofK l) := ⟨_, rfl⟩
      obtain ⟨f, hf⟩ : ∃ f, f = ofK l kk := ⟨_, rfl⟩
      rw [← hpre, ← hf] at HTK
      rw [← hpre] at hH
      have HF := Lib.hid hf
      have HSE := Lib.hid (fun (j : Nat) (hj : j ≤ f.length) => (show selL l kk (stAt f j) = f[j]? from by
        have := selL_at (HP.out kk) H0.out (j := j) (by rw [← HF.out]; exact hj)
        rwa [← HF.out] at this))
      have T2 := Lib.hid (show VerIn w B KI (pre ++ f.take 0) m c3 A3 wr from by rw [List.take_zero, List.append_nil]; exact hH.out)
      clear hkk hpre hf hH
      go_wp2
      go_loopw [6, 3] (fun t u wr => ∃ (j m c3 : Nat) (A3 : Option Addr) (s : Int), t = .int .i64 s ∧ u = .slice A3 m c3 ∧ m = pre.length + j ∧ j ≤ f.length ∧ Hid (s = stAt f j) ∧ Hid (VerIn w B KI (pre ++ f.take j) m c3 A3 wr)) (fun _ u _ => pre.length + f.length + 1 - lenV u)
      case atStart => exact ⟨0, m, c3, A3, -1, rfl, rfl, by
        obtain ⟨ts, h1, h2, _, _⟩ := T2.out
        rw [← h2, ← List.length_map (f := Hv.x), h1, List.take_zero, List.append_nil]; rfl, Nat.zero_le _, Lib.hid rfl, T2⟩
      case round =>
        clear T2
        obtain ⟨j, m, c3, A3, s, rfl, rfl, hmj, hj, hs, hH⟩ := hrel
        have HMJ := Lib.hid hmj
        have HSJ := Lib.hid (show selL l kk s = f[j]? from by rw [hs.out]; exact HSE.out j hj)
        obtain ⟨ts, hts, htl, hto, hT⟩ := hH.out
        have HTS := Lib.hid (And.intro hts (And.intro htl hto))
        obtain ⟨g7, hg7⟩ : ∃ g, g = wr.heap.size := ⟨_, rfl⟩
        obtain ⟨w7, hw7⟩ : ∃ y, y = wr.alloc (.cells #[.string ⟨#[]⟩, .int .i64 0, .slice none 0 0, .bool false] 88) := ⟨_, rfl⟩
        have HW7 := Lib.hid hw7
        have T7 := Lib.hid (show BstIn w B l kk s KI A3 m c3 ts g7 0 false w7 from ⟨none, 0, by rw [List.take_zero]; rfl, (by rw [List.take_zero]; intro y hy; exact absurd (show (none : Option Vn) = some y from hy) (by simp)), by
          rw [hw7, hg7]
          exact (hT.more (y := Item.blk wr.heap.size 88 (vz.cells none 0)) ((Below.refl _ _).alloc (Nat.le_refl _) _) (Blk.new _ _ _) (fun k hk => Nat.le_of_eq hk.symm)).by_ 3 rfl [1, 2, 0] (by decide)⟩)
        clear hmj hts htl hto hT hH hw7
        go_upto_region 7 with fail
        rw [← HW7.out]
        rw [← hg7]
        clear HW7 hg7
        go_wp2
        go_loopw [21, 8] (fun t u wr => ∃ (K : Nat) (b : Bool), t = .int .i64 K ∧ u = .bool b ∧ K ≤ N ∧ Hid (BstIn w B l kk s KI A3 m c3 ts g7 K b wr)) (fun t _ _ => N - (intOf t).toNat)
        case atStart => exact ⟨0, false, rfl, rfl, Nat.zero_le _, T7⟩
        case round =>
          clear T7
          obtain ⟨K, b, rfl, rfl, hK, hH⟩ := hrel
          by_cases hlt3 : (K : Int) < (N : Int)
          · have hKl : K < l.length := by have := HN.out; omega
            have hKi : K + 1 ≤ N := by omega
            obtain ⟨A8, c8, hb, hbo, hT⟩ := hH.out
            have hbw := hT.free
            obtain ⟨bb, off, Av, cv, hA, hbb, hints, s0, s1, s2, s3, hval, hvc⟩ := vn_at (HS.out.keep (fun p hp => hbw.cell (Nat.lt_of_lt_of_le hp HB0.out))) hKl
            obtain ⟨bb2, off2, Av2, cv2, hA2, hbb2, u1, u2, u3, t2, u4, hval2, hvc2⟩ := vn_at HS.out hKl
            have hvo : (⟨l[K], Av, cv⟩ : Hv).okAt w B := by
              rw [hA] at hA2
              injection hA2 with hA2
              injection hA2 with e1 e2
              subst e1; subst e2
              have := (hbw.cell (p := ⟨bb, off + K * 4 + 2, none⟩) (Nat.lt_of_lt_of_le hbb HB0.out)).trans t2
              rw [s2] at this
              injection this with this
              injection this with a1 _ a2
              subst a1; subst a2
              exact ⟨hints, hval2, hvc2⟩
            subst hA
            obtain ⟨x, hx⟩ : ∃ x, x = l[K] := ⟨_, rfl⟩
            rw [← hx] at s0 s1 s2 s3 hvo
            have HVO := Lib.hid hvo
            have HNS := Lib.hid (selL_snoc (k := kk) (s := s) hKl hx)
            obtain ⟨xk, xs, xv, xd⟩ := x
            simp only at s0 s1 s2 s3
            obtain ⟨o, ho⟩ : ∃ o, o = selL (l.take K) kk s := ⟨_, rfl⟩
            rw [← ho] at hb hbo hT HNS
            have HB := Lib.hid (And.intro hb hbo)
            obtain ⟨wa, hwa⟩ : ∃ y, y = wr.alloc (.cells #[.string xk, .int .i64 xs, .slice Av xv.length cv, .bool xd] 88) := ⟨_, rfl⟩
            have HWA := Lib.hid hwa
            have TA := Lib.hid (show Turn (Item.all []) w (Item.all [KI, Item.rowT 88 4 (.slice A3 m c3) m (hvCells ts), Item.blk g7 88 ((o.getD vz).cells A8 c8), Item.blk wr.heap.size 88 #[.string xk, .int .i64 xs, .slice Av xv.length cv, .bool xd]]) wa from by
              rw [hwa]
              exact (hT.more (y := Item.blk wr.heap.size 88 #[.string xk, .int .i64 xs, .slice Av xv.length cv, .bool xd]) ((Below.refl _ _).alloc (Nat.le_refl _) _) (Blk.new _ _ _) (fun k hk => Nat.le_of_eq hk.symm)).by_ 4 rfl [1, 2, 3, 0] (by decide))
            have hbr : bb < wr.heap.size := Nat.lt_of_lt_of_le (Nat.lt_of_lt_of_le hbb HB0.out) hbw.size
            clear hval hvc hints hbb hT hH hbw hb hbo ho hwa hA2 hbb2 u1 u2 u3 u4 t2 hval2 hvc2 hvo hx
            go_upto_region 10 with fail
            rw [← HWA.out]
            obtain ⟨gx, hgx⟩ : ∃ g, g = wr.heap.size := ⟨_, rfl⟩
            rw [← hgx] at TA ⊢
            clear HWA hgx s0 s1 s2 s3 hbr
            have q0 := Blk.cell (show Blk wa gx _ #[.string xk, .int .i64 xs, .slice Av xv.length cv, .bool xd] from TA.out.get (i := 3) rfl) 0
            have q1 := Blk.cell (show Blk wa gx _ #[.string xk, .int .i64 xs, .slice Av xv.length cv, .bool xd] from TA.out.get (i := 3) rfl) 1
            have q2 := Blk.cell (show Blk wa gx _ #[.string xk, .int .i64 xs, .slice Av xv.length cv, .bool xd] from TA.out.get (i := 3) rfl) 2
            have q3 := Blk.cell (show Blk wa gx _ #[.string xk, .int .i64 xs, .slice Av xv.length cv, .bool xd] from TA.out.get (i := 3) rfl) 3
            obtain ⟨⟨ok_, os, ov, od⟩, hov⟩ : ∃ v, v = o.getD vz := ⟨_, rfl⟩
            have HOV := Lib.hid hov
            rw [← hov, show Vn.cells ⟨ok_, os, ov, od⟩ A8 c8 = #[.string ok_, .int .i64 os, .slice A8 ov.length c8, .bool od] from rfl] at TA
            have y0 := Blk.cell (show Blk wa g7 _ #[.string ok_, .int .i64 os, .slice A8 ov.length c8, .bool od] from TA.out.get (i := 2) rfl) 0
            have f0 := Blk.frozen (show Blk wa g7 _ #[.string ok_, .int .i64 os, .slice A8 ov.length c8, .bool od] from TA.out.get (i := 2) rfl) 0
            have y1 := Blk.cell (show Blk wa g7 _ #[.string ok_, .int .i64 os, .slice A8 ov.length c8, .bool od] from TA.out.get (i := 2) rfl) 1
            have f1 := Blk.frozen (show Blk wa g7 _ #[.string ok_, .int .i64 os, .slice A8 ov.length c8, .bool od] from TA.out.get (i := 2) rfl) 1
            have y2 := Blk.cell (show Blk wa g7 _ #[.string ok_, .int .i64 os, .slice A8 ov.length c8, .bool od] from TA.out.get (i := 2) rfl) 2
            have f2 := Blk.frozen (show Blk wa g7 _ #[.string ok_, .int .i64 os, .slice A8 ov.length c8, .bool od] from TA.out.get (i := 2) rfl) 2
            have y3 := Blk.cell (show Blk wa g7 _ #[.string ok_, .int .i64 os, .slice A8 ov.length c8, .bool od] from TA.out.get (i := 2) rfl) 3
            have f3 := Blk.frozen (show Blk wa g7 _ #[.string ok_, .int .i64 os, .slice A8 ov.length c8, .bool od] from TA.out.get (i := 2) rfl) 3
            simp only [List.getElem?_toArray, List.getElem?_cons_zero, List.getElem?_cons_succ] at q0 q1 q2 q3 y0 y1 y2 y3
            clear hov
            cases hE : (xk.toList == kk) with
            | false =>
              have HNK := Lib.hid (show selV kk s o ⟨xk, xs, xv, xd⟩ = o from if_neg (fun h => by
                have h1 : xk.data.toList = kk := h.1
                rw [ByteArray.toList_eq, h1, beq_self_eq_true] at hE; cases hE))
              have HRE := Lib.hid (show BstIn w B l kk s KI A3 m c3 ts g7 (K + 1) b wa from ⟨A8, c8, by rw [HNS.out, HNK.out]; exact HB.out.1, by rw [HNS.out, HNK.out]; exact HB.out.2, by rw [HNS.out, HNK.out, ← HOV.out]; exact TA.out.sub (List.Sublist.cons_cons _ (List.Sublist.cons_cons _ (List.Sublist.cons_cons _ (List.nil_sublist _))))⟩)
              clear TA
              go_wp2
              exact ⟨⟨K + 1, b, by go_num, rfl, hKi, HRE⟩, by simp [intOf]; omega⟩
            | true =>
              have HKE := Lib.hid (show xk.data.toList = kk from by
                have h := beq_iff_eq.1 hE
                rwa [ByteArray.toList_eq] at h)
              by_cases hs2 : s < xs
              · have e1 : decide (s < xs) = true := decide_eq_true hs2
                have HSS := Lib.hid hs2
                clear hs2
                cases b with
                | false =>
                  have HNK := Lib.hid (show selV kk s o ⟨xk, xs, xv, xd⟩ = some ⟨xk, xs, xv, xd⟩ from if_pos ⟨HKE.out, HSS.out, fun y hy => by
                    have h := HB.out.1
                    rw [hy] at h; cases h⟩)
                  have HRE := Lib.hid (show BstIn w B l kk s KI A3 m c3 ts g7 (K + 1) true ((((wa.setCell ⟨g7, 0, none⟩ (.string xk)).setCell ⟨g7, 1, none⟩ (.int .i64 xs)).setCell ⟨g7, 2, none⟩ (.slice Av xv.length cv)).setCell ⟨g7, 3, none⟩ (.bool xd)) from ⟨Av, cv, by rw [HNS.out, HNK.out]; rfl, by rw [HNS.out, HNK.out]; intro y hy; injection hy with hy; subst hy; exact HVO.out, by
                    rw [HNS.out, HNK.out]
                    have t1 := TA.out.step (i := 2) rfl (Turn.cell (TA.out.get (i := 2) rfl) 0 (.string xk))
                    have t2 := t1.step (i := 2) rfl (Turn.cell (t1.get (i := 2) rfl) 1 (.int .i64 xs))
                    have t3 := t2.step (i := 2) rfl (Turn.cell (t2.get (i := 2) rfl) 2 (.slice Av xv.length cv))
                    have t4 := t3.step (i := 2) rfl (Turn.cell (t3.get (i := 2) rfl) 3 (.bool xd))
                    exact t4.sub (List.Sublist.cons_cons _ (List.Sublist.cons_cons _ (List.Sublist.cons_cons _ (List.nil_sublist _))))⟩)
                  clear TA
                  go_wp2
                  exact ⟨⟨K + 1, true, by go_num, rfl, hKi, HRE⟩, by simp [intOf]; omega⟩
                | true =>
                  by_cases hb : xs < os
                  · have e2 : decide (xs < os) = true := decide_eq_true hb
                    have HNK := Lib.hid (show selV kk s o ⟨xk, xs, xv, xd⟩ = some ⟨xk, xs, xv, xd⟩ from if_pos ⟨HKE.out, HSS.out, fun y hy => by
                      have h := HOV.out
                      rw [hy] at h
                      have h2 : os = y.stamp := congrArg Vn.stamp h
                      show xs < y.stamp
                      omega⟩)
                    clear hb
                    have HRE := Lib.hid (show BstIn w B l kk s KI A3 m c3 ts g7 (K + 1) true ((((wa.setCell ⟨g7, 0, none⟩ (.string xk)).setCell ⟨g7, 1, none⟩ (.int .i64 xs)).setCell ⟨g7, 2, none⟩ (.slice Av xv.length cv)).setCell ⟨g7, 3, none⟩ (.bool xd)) from ⟨Av, cv, by rw [HNS.out, HNK.out]; rfl, by rw [HNS.out, HNK.out]; intro y hy; injection hy with hy; subst hy; exact HVO.out, by
                      rw [HNS.out, HNK.out]
                      have t1 := TA.out.step (i := 2) rfl (Turn.cell (TA.out.get (i := 2) rfl) 0 (.string xk))
                      have t2 := t1.step (i := 2) rfl (Turn.cell (t1.get (i := 2) rfl) 1 (.int .i64 xs))
                      have t3 := t2.step (i := 2) rfl (Turn.cell (t2.get (i := 2) rfl) 2 (.slice Av xv.length cv))
                      have t4 := t3.step (i := 2) rfl (Turn.cell (t3.get (i := 2) rfl) 3 (.bool xd))
                      exact t4.sub (List.Sublist.cons_cons _ (List.Sublist.cons_cons _ (List.Sublist.cons_cons _ (List.nil_sublist _))))⟩)
                    clear TA
                    go_wp2
                    exact ⟨⟨K + 1, true, by go_num, rfl, hKi, HRE⟩, by simp [intOf]; omega⟩
                  · have e2 : decide (xs < os) = false := decide_eq_false hb
                    have HNK := Lib.hid (show selV kk s o ⟨xk, xs, xv, xd⟩ = o from if_neg (fun h => by
                      obtain ⟨y, hy⟩ := Option.isSome_iff_exists.1 HB.out.1.symm
                      have h1 := h.2.2 y hy
                      have h0 := HOV.out
                      rw [hy] at h0
                      have h2 : os = y.stamp := congrArg Vn.stamp h0
                      have h3 : xs < y.stamp := h1
                      omega))
                    clear hb
                    have HRE := Lib.hid (show BstIn w B l kk s KI A3 m c3 ts g7 (K + 1) true wa from ⟨A8, c8, by rw [HNS.out, HNK.out]; exact HB.out.1, by rw [HNS.out, HNK.out]; exact HB.out.2, by rw [HNS.out, HNK.out, ← HOV.out]; exact TA.out.sub (List.Sublist.cons_cons _ (List.Sublist.cons_cons _ (List.Sublist.cons_cons _ (List.nil_sublist _))))⟩)
                    clear TA
                    go_wp2
                    exact ⟨⟨K + 1, true, by go_num, rfl, hKi, HRE⟩, by simp [intOf]; omega⟩
              · have e1 : decide (s < xs) = false := decide_eq_false hs2
                have HNK := Lib.hid (show selV kk s o ⟨xk, xs, xv, xd⟩ = o from if_neg (fun h => hs2 h.2.1))
                clear hs2
                have HRE := Lib.hid (show BstIn w B l kk s KI A3 m c3 ts g7 (K + 1) b wa from ⟨A8, c8, by rw [HNS.out, HNK.out]; exact HB.out.1, by rw [HNS.out, HNK.out]; exact HB.out.2, by rw [HNS.out, HNK.out, ← HOV.out]; exact TA.out.sub (List.Sublist.cons_cons _ (List.Sublist.cons_cons _ (List.Sublist.cons_cons _ (List.nil_sublist _))))⟩)
                clear TA
                go_wp2
                exact ⟨⟨K + 1, b, by go_num, rfl, hKi, HRE⟩, by simp [intOf]; omega⟩
          · obtain rfl : K = N := by omega
            obtain ⟨A8, c8, hb, hbo, hT⟩ := hH.out
            rw [List.take_of_length_le (by rw [← HN.out]; exact Nat.le_refl _), HSJ.out] at hb hbo hT
            rcases Nat.lt_or_ge j f.length with hjl | hjl
            · obtain ⟨y, hy⟩ : ∃ y, y = f[j] := ⟨_, rfl⟩
              have hfj : f[j]? = some y := by rw [List.getElem?_eq_getElem hjl, hy]
              rw [hfj] at hb hbo hT
              have HYO := Lib.hid (hbo y rfl)
              have hbt : b = true := hb
              subst hbt
              have HFT := Lib.hid (show pre ++ f.take (j + 1) = (pre ++ f.take j) ++ [y] from by rw [List.take_succ_eq_append_getElem hjl, ← hy, List.append_assoc])
              have HSN := Lib.hid (show stAt f (j + 1) = y.stamp from by rw [stAt_succ hjl, hy])
              obtain ⟨ok_, os, ov, od⟩ := y
              have TA := Lib.hid (show Turn (Item.all []) w (Item.all [KI, Item.rowT 88 4 (.slice A3 m c3) m (hvCells ts), Item.blk g7 88 #[.string ok_, .int .i64 os, .slice A8 ov.length c8, .bool od]]) wr from hT)
              have HMN := Lib.hid (show m + 1 ≤ K from by
                have h1 := HTL.out
                rw [HTK.out, List.length_append] at h1
                have := HMJ.out
                omega)
              have hmN : m + 1 ≤ K := HMN.out
              have y0 := Blk.cell (show Blk wr g7 _ #[.string ok_, .int .i64 os, .slice A8 ov.length c8, .bool od] from TA.out.get (i := 2) rfl) 0
              have y1 := Blk.cell (show Blk wr g7 _ #[.string ok_, .int .i64 os, .slice A8 ov.length c8, .bool od] from TA.out.get (i := 2) rfl) 1
              have y2 := Blk.cell (show Blk wr g7 _ #[.string ok_, .int .i64 os, .slice A8 ov.length c8, .bool od] from TA.out.get (i := 2) rfl) 2
              have y3 := Blk.cell (show Blk wr g7 _ #[.string ok_, .int .i64 os, .slice A8 ov.length c8, .bool od] from TA.out.get (i := 2) rfl) 3
              simp only [List.getElem?_toArray, List.getElem?_cons_zero, List.getElem?_cons_succ] at y0 y1 y2 y3
              have hjl1 : j + 1 ≤ f.length := hjl
              clear hb hbo hT hH hfj hy hjl
              go_wp2_with (at_builtin; refine Stop.of ?_)
              have T8 := Lib.hid (TA.out.go ((Below.refl wr.heap.size wr).alloc (Nat.le_refl _) (.cells #[.string ok_, .int .i64 os, .slice A8 ov.length c8, .bool od] 88)))
              refine ⟨wpList_append_any _ rfl rfl 0 Try.underlying42 info_ver rfl (by decide) (by decide) rfl (T8.out.get (i := 1) rfl) rfl (fresh_src (Blk.new wr 88 #[.string ok_, .int .i64 os, .slice A8 ov.length c8, .bool od]) Try.underlying42 rfl (by decide) rfl) (by omega) (Nat.zero_le _) ?_⟩
              intro v' w9 ho hg hf
              have t9 := T8.out.step (i := 1) rfl (Turn.rowT (v := .slice A3 m c3) (n := m) (xs := hvCells ts) ho hg hf)
              obtain ⟨A9, c9, rfl, _, _⟩ := own_slice ho
              have HRE := Lib.hid (show VerIn w B KI (pre ++ f.take (j + 1)) (m + 1) c9 A9 w9 from ⟨ts ++ [⟨⟨ok_, os, ov, od⟩, A8, c8⟩], by rw [List.map_append, HTS.out.1, HFT.out]; rfl, by rw [List.length_append, HTS.out.2.1]; rfl, fun t ht => by
                rcases List.mem_append.1 ht with ht | ht
                · exact HTS.out.2.2 t ht
                · rw [List.mem_singleton.1 ht]; exact HYO.out, by
                rw [hvCells_snoc]
                exact t9.sub (List.Sublist.cons_cons _ (List.Sublist.cons_cons _ (List.nil_sublist _)))⟩)
              have z1 := Blk.cell (show Blk w9 g7 _ #[.string ok_, .int .i64 os, .slice A8 ov.length c8, .bool od] from t9.get (i := 2) rfl) 1
              simp only [List.getElem?_toArray, List.getElem?_cons_zero, List.getElem?_cons_succ] at z1
              have hm9 : m + 1 = pre.length + (j + 1) := by have := HMJ.out; omega
              have HM9 := Lib.hid hm9
              clear ho hg hf t9 T8 TA y0 y1 y2 y3 hm9
              go_wp2
              exact ⟨⟨j + 1, m + 1, c9, A9, os, rfl, rfl, HM9.out, hjl1, Lib.hid HSN.out.symm, HRE⟩, by have := HM9.out; simp [lenV]; omega⟩
            · have hjf : j = f.length := by omega
              have hfj : f[j]? = none := List.getElem?_eq_none hjl
              rw [hfj] at hb hbo hT
              have hbt : b = false := hb
              subst hbt
              have HRE := Lib.hid (show VerIn w B KI ((ks.take (i + 1)).flatMap (ofK l)) m c3 A3 wr from ⟨ts, by rw [HTS.out.1, HTK.out, List.take_of_length_le (by omega)], HTS.out.2.1, HTS.out.2.2, hT.sub (List.Sublist.cons_cons _ (List.Sublist.cons_cons _ (List.nil_sublist _)))⟩)
              clear hb hbo hT hH hfj hjf hjl
              go_wp2
              exact ⟨⟨i + 1, m, c3, A3, by go_num, rfl, hii, HRE⟩, by simp [intOf]; omega⟩
    · obtain rfl : i = n := by omega
      have HRE := Lib.hid (show RvPost l B w (.returned (.slice A3 m c3)) wr from by
        obtain ⟨ts, h1, h2, h3, hT⟩ := hH.out
        rw [List.take_of_length_le (by rw [← HNK.out]; exact Nat.le_refl _), HKS.out] at h1
        have h4 : ts.map Hv.x = versR l := h1
        exact ⟨A3, m, c3, ts, by rw [← h4, List.length_map, h2], rfl, h4, h3, hT.sub (List.Sublist.cons _ (List.Sublist.refl _))⟩)
      clear hH
      go_wp2
      go_ret
      exact HRE.out
end Go.Proofs.Ytmnpchncmbnddaa
/- The reference's Image, by contract. -/
namespace Go.Proofs.Ytmnpchncmbnddaa
open Go.RowKit

end Go.Proofs.Ytmnpchncmbnddaa
/- The reference's store and the plain store: they hold the same. -/
namespace Go.Proofs.Ytmnpchncmbnddaa
open Go.RowKit

structure RelRS (R : List Vn) (S : PS) : Prop where
  ok : PsOk S 4611686018427387904
  key : ∀ k, ofK R k = (ofP S k).map (vnOf k)
  len : R.length = totP S
theorem RelRS.nil : RelRS [] [] := ⟨PsOk.nil, fun _ => rfl, rfl⟩
section
variable {R : List Vn} {S : PS} {v : Vn}
theorem RelRS.up (h : RelRS R S) (k : Key) : (ofK R k).Pairwise fun a b => a.stamp < b.stamp := by
  rw [h.key k, List.pairwise_map]
  exact h.ok.of.1
theorem ofK_mem {l : List Vn} {x : Vn} (hx : x ∈ l) : x ∈ ofK l x.k := List.mem_filter.2 ⟨hx, by simp⟩
theorem RelRS.each (h : RelRS R S) : ∀ x ∈ R, 0 ≤ x.stamp ∧ x.stamp ≤ 4611686018427387904 ∧ x.value.length ≤ 4096 := fun x hx => by
  have h1 := ofK_mem hx
  rw [h.key] at h1
  obtain ⟨y, hy, he⟩ := List.mem_map.1 h1
  have o := h.ok.of.2 y hy
  rw [← he]
  exact ⟨o.low, o.high, o.len⟩
theorem new_none {key : ByteArray} {st : Int} : ∀ {l : List Vn} (b : Option Vn), l.foldl (newS key st) b = (ofK l key.data.toList).foldl (newS key st) b
  | [], _ => rfl
  | v :: l, b => by
    unfold ofK
    by_cases h : v.k = key.data.toList
    · rw [List.filter_cons_of_pos (by simpa using h), List.foldl_cons, List.foldl_cons]
      exact new_none _
    · rw [List.filter_cons_of_neg (by simpa using h), List.foldl_cons, show newS key st b v = b from if_neg (fun hh => h (by unfold Vn.k; rw [hh.1]))]
      exact new_none b
theorem keyEqB {a b : ByteArray} (h : a.data.toList = b.data.toList) : a = b := by
  obtain ⟨⟨x⟩⟩ := a
  obtain ⟨⟨y⟩⟩ := b
  simp only at h
  rw [h]
theorem new_up {key : ByteArray} {st : Int} : ∀ {f : List Vn} {b : Option Vn}, (∀ v ∈ f, v.k = key.data.toList ∧ v.stamp ≤ st) → (f.Pairwise fun a b => a.stamp < b.stamp) → (∀ x, b = some x → ∀ v ∈ f, x.stamp < v.stamp) → f.foldl (newS key st) b = match f.getLast? with | some x => some x | none => b
  | [], _, _, _, _ => rfl
  | v :: f, b, hk, hp, hb => by
    obtain ⟨p1, p2⟩ := List.pairwise_cons.1 hp
    have h1 := hk v (List.mem_cons_self ..)
    rw [List.foldl_cons, show newS key st b v = some v from if_pos ⟨keyEqB h1.1, h1.2, fun x hx => hb x hx v (List.mem_cons_self ..)⟩, new_up (fun y hy => hk y (List.mem_cons_of_mem _ hy)) p2 (fun x hx y hy => by injection hx with hx; subst hx; exact p1 y hy)]
    cases f with
    | nil => rfl
    | cons a r =>
      rw [show (v :: a :: r).getLast? = (a :: r).getLast? from by rw [List.getLast?_cons_cons]]
      obtain ⟨z, hz⟩ : ∃ z, (a :: r).getLast? = some z := ⟨_, List.getLast?_eq_some_getLast (by simp)⟩
      rw [hz]
theorem RelRS.new (h : RelRS R S) (key : ByteArray) : newL R key 4611686018427387904 = ((ofP S key.data.toList).map (vnOf key.data.toList)).getLast? := by
  have hf : ∀ v ∈ ofK R key.data.toList, v.k = key.data.toList ∧ v.stamp ≤ 4611686018427387904 := fun v hv => ⟨by have := (List.mem_filter.1 hv).2; simpa using this, (h.each v (List.mem_filter.1 hv).1).2.1⟩
  unfold newL
  rw [new_none, new_up hf (h.up _) (fun x hx => by cases hx), h.key]
  cases ((ofP S key.data.toList).map (vnOf key.data.toList)).getLast? <;> rfl
theorem RelRS.err (h : RelRS R S) : (appRS R v).2 = errP S v := by
  unfold appRS errP
  by_cases hb : v.bad ≠ 0
  · rw [if_pos hb, if_pos hb]
  · rw [if_neg hb, if_neg hb]
    have hn := h.new v.key
    have hiff : (∃ o, newL R v.key 4611686018427387904 = some o ∧ v.stamp ≤ o.stamp) ↔ (0 < (ofP S v.k).length ∧ v.stamp ≤ lastP (ofP S v.k)) := by
      rw [hn]
      show (∃ o, ((ofP S v.k).map (vnOf v.k)).getLast? = some o ∧ v.stamp ≤ o.stamp) ↔ _
      rw [List.getLast?_map]
      unfold lastP
      cases hl : (ofP S v.k).getLast? with
      | none =>
        rw [List.getLast?_eq_none_iff] at hl
        rw [hl]
        simp
      | some y =>
        have hne : ofP S v.k ≠ [] := by intro e; rw [e] at hl; cases hl
        have hpos : 0 < (ofP S v.k).length := List.length_pos_iff.2 hne
        constructor
        · rintro ⟨o, ho, hs⟩
          injection ho with ho
          subst ho
          exact ⟨hpos, hs⟩
        · rintro ⟨_, hs⟩
          exact ⟨_, rfl, hs⟩
    by_cases hc : ∃ o, newL R v.key 4611686018427387904 = some o ∧ v.stamp ≤ o.stamp
    · rw [if_pos hc, if_pos (hiff.1 hc)]
    · rw [if_neg hc, if_neg (fun hh => hc (hiff.2 hh))]
theorem appRS_1 (h : (appRS R v).2 ≠ 0) : (appRS R v).1 = R := by
  unfold appRS at h ⊢
  split
  · rfl
  · rename_i h1
    rw [if_neg h1] at h
    split
    · rfl
    · rename_i h2
      rw [if_neg h2] at h
      exact absurd rfl h
theorem appRS_0 (h : (appRS R v).2 = 0) : (appRS R v).1 = R ++ [v] := by
  unfold appRS at h ⊢
  split
  · rename_i h1
    rw [if_pos h1] at h
    exact absurd h h1
  · rename_i h1
    rw [if_neg h1] at h
    split
    · rename_i h2
      rw [if_pos h2] at h
      cases h
    · rfl
theorem RelRS.apply (h : RelRS R S) : RelRS (appRS R v).1 (tryP S v) := by
  have he := h.err (v := v)
  unfold tryP
  by_cases h0 : errP S v = 0
  · rw [if_pos h0, appRS_0 (he.trans h0)]
    have hb := bad_of' h0
    refine ⟨h.ok.apply h0 hb, fun k => ?_, by rw [List.length_append, List.length_singleton, h.len, totP_apply h.ok.rising]⟩
    unfold ofK
    rw [List.filter_append]
    show ofK R k ++ _ = _
    rw [h.key k]
    unfold applyP
    by_cases hk : v.k = k
    · subst hk
      rw [of_put_same, List.map_append, List.filter_cons_of_pos (by simp), List.filter_nil, List.map_singleton]
      congr 2
    · rw [of_put_other hk, List.filter_cons_of_neg (by simpa using hk), List.filter_nil, List.append_nil]
  · rw [if_neg h0, appRS_1 (by rw [he]; exact h0)]
    exact h
where
  bad_of' {S : PS} {v : Vn} (h0 : errP S v = 0) : v.stamp ≤ 4611686018427387904 := (vbad_0 (errP_0 h0).1).2.2.2.2.2
theorem RelRS.keys (h : RelRS R S) : keysR R = S.map Prod.fst := by
  refine rising_one (keysR_up R) (List.pairwise_map.2 h.ok.rising) fun k => ?_
  rw [keysR_mem, List.mem_map]
  constructor
  · rintro ⟨x, hx, rfl⟩
    have h1 := ofK_mem hx
    rw [h.key] at h1
    unfold ofP at h1
    cases hg : getA x.k S with
    | none => rw [hg] at h1; simp at h1
    | some L => exact ⟨_, getA_mem hg, rfl⟩
  · rintro ⟨p, hp, rfl⟩
    have hg : ofP S p.1 = p.2 := by
      obtain ⟨i, hi, rfl⟩ := List.mem_iff_getElem.1 hp
      unfold ofP
      rw [getA_of (rising_apart h.ok.rising) hi]
      rfl
    obtain ⟨hn, _⟩ := h.ok.each p hp
    have h2 := h.key p.1
    rw [hg] at h2
    obtain ⟨y, hy⟩ := List.exists_mem_of_ne_nil _ hn
    have h3 : vnOf p.1 y ∈ ofK R p.1 := by rw [h2]; exact List.mem_map.2 ⟨y, hy, rfl⟩
    have h4 := List.mem_filter.1 h3
    exact ⟨_, h4.1, by have := h4.2; simpa using this⟩
theorem RelRS.vers (h : RelRS R S) : versR R = versF S := by
  unfold versR versF
  rw [h.keys, List.flatMap_map]
  have : ∀ p ∈ S, ofK R p.1 = p.2.map (vnOf p.1) := fun p hp => by
    rw [h.key]
    obtain ⟨i, hi, rfl⟩ := List.mem_iff_getElem.1 hp
    unfold ofP
    rw [getA_of (rising_apart h.ok.rising) hi]
    rfl
  rw [List.flatMap_def, List.flatMap_def]
  congr 1
  exact List.map_congr_left this
end
end Go.Proofs.Ytmnpchncmbnddaa
/- Rebuild: what the reference reads, the plain law. -/
namespace Go.Proofs.Ytmnpchncmbnddaa
open Go.RowKit

/-- Is the entry at a place one of a commit group's writes. -/
def GoodAt (l : List En) (i : Nat) (e : En) : Prop := e.chk = 0 ∧ (e.kind = 1 ∨ e.kind = 2) ∧ notUp (l.take i) e = false
/-- The first entries are a commit group's writes. -/
def GoodTo (l : List En) (K : Nat) : Prop := ∀ i, i < K → ∀ h : i < l.length, GoodAt l i l[i]
/-- Is the entry a commit group's end. -/
def EndAt (m : Int) (K : Nat) (e : En) : Prop := e.chk = 0 ∧ e.stamp = m ∧ e.count = K
section
variable {l : List En} {m : Int} {p : List En}
theorem GoodTo.zero : GoodTo l 0 := fun _ h => absurd h (Nat.not_lt_zero _)
theorem GoodTo.add {K : Nat} (h : GoodTo l K) {x : En} (hK : K < l.length) (hx : x = l[K]) (hg : GoodAt l K x) : GoodTo l (K + 1) := fun i hi hl => by
  rcases Nat.lt_or_ge i K with h1 | h1
  · exact h i h1 hl
  · obtain rfl : i = K := by omega
    subst hx
    exact hg
theorem comG_go {K : Nat} (h : GoodTo l K) (hK : K ≤ l.length) : comG m [] l = comG m (l.take K) (l.drop K) := by
  induction K with
  | zero => rfl
  | succ K ih =>
    rw [ih (fun i hi => h i (by omega)) (by omega)]
    have hg := h K (Nat.lt_succ_self _) (by omega)
    exact comG_up (by omega) rfl hg.1 hg.2.1 hg.2.2
theorem comG_spec' : ∀ (d K : Nat), K ≤ l.length → l.length - K = d → GoodTo l K → comG m (l.take K) (l.drop K) = some p → ∃ n, p = l.take n ∧ 1 ≤ n ∧ ∃ h : n < l.length, GoodTo l n ∧ l[n].kind = 3 ∧ EndAt m n l[n]
  | 0, K, hK, hd, _, h => by
    rw [List.drop_of_length_le (by omega)] at h
    cases h
  | d + 1, K, hK, hd, hg, h => by
    have hl : K < l.length := by omega
    by_cases hc : l[K].chk ≠ 0
    · rw [comG_bad hl rfl hc] at h; cases h
    have hc0 : l[K].chk = 0 := Decidable.not_not.1 hc
    by_cases hk : l[K].kind = 1 ∨ l[K].kind = 2
    · by_cases hu : notUp (l.take K) l[K] = true
      · rw [comG_down hl rfl hk hu] at h; cases h
      · have hu' : notUp (l.take K) l[K] = false := by simpa using hu
        rw [comG_up hl rfl hc0 hk hu'] at h
        exact comG_spec' d (K + 1) hl (by omega) (hg.add hl rfl ⟨hc0, hk, hu'⟩) h
    · by_cases h3 : l[K].kind = 3
      · rw [comG_end hl rfl hc0 h3] at h
        split at h
        · cases h
        · rename_i hn
          injection h with h
          refine ⟨K, h.symm, ?_, hl, hg, h3, hc0, ?_, ?_⟩
          · rcases Nat.eq_zero_or_pos K with h0 | h0
            · exact absurd (.inl h0) hn
            · exact h0
          · exact Decidable.not_not.1 fun hh => hn (.inr (.inl hh))
          · exact Decidable.not_not.1 fun hh => hn (.inr (.inr hh))
      · rw [comG_other hl rfl (fun e => hk (.inl e)) (fun e => hk (.inr e)) h3] at h; cases h
theorem comG_spec (h : comG m [] l = some p) : ∃ n, p = l.take n ∧ 1 ≤ n ∧ ∃ h : n < l.length, GoodTo l n ∧ l[n].kind = 3 ∧ EndAt m n l[n] :=
  comG_spec' l.length 0 (Nat.zero_le _) rfl .zero h
theorem comG_no3 (h : ∀ i, 1 ≤ i → ∀ hl : i < l.length, l[i].kind ≠ 3) : comG m [] l = none := by
  cases hc : comG m [] l with
  | none => rfl
  | some p =>
    obtain ⟨n, _, h1, hl, _, h3, _⟩ := comG_spec hc
    exact absurd h3 (h n h1 hl)
theorem comG_at3 {K : Nat} (hK : K < l.length) (h1 : 1 ≤ K) (h3 : l[K].kind = 3) (hn : ∀ i, 1 ≤ i → i < K → ∀ hl : i < l.length, l[i].kind ≠ 3) : comG m [] l = some p → p = l.take K ∧ GoodTo l K ∧ EndAt m K l[K] := fun h => by
  obtain ⟨n, hp, g1, hl, hg, g3, he⟩ := comG_spec h
  have : n = K := by
    rcases Nat.lt_trichotomy n K with h | h | h
    · exact absurd g3 (hn n g1 h hl)
    · exact h
    · have := (hg K h hK).2.1
      omega
  subst this
  exact ⟨hp, hg, he⟩
theorem comG_end_no {K : Nat} {x : En} (hK : K < l.length) (hx : x = l[K]) (h1 : 1 ≤ K) (h3 : x.kind = 3) (hn : ∀ i, 1 ≤ i → i < K → ∀ hl : i < l.length, l[i].kind ≠ 3) (he : ¬ EndAt m K x) : comG m [] l = none := by
  subst hx
  cases hc : comG m [] l with
  | none => rfl
  | some p => exact absurd (comG_at3 hK h1 h3 hn hc).2.2 he
theorem comG_good_no {K i : Nat} {x y : En} (hK : K < l.length) (hx : x = l[K]) (h1 : 1 ≤ K) (h3 : x.kind = 3) (hn : ∀ i, 1 ≤ i → i < K → ∀ hl : i < l.length, l[i].kind ≠ 3) (hi : i < K) (hl : i < l.length) (hy : y = l[i]) (he : ¬ GoodAt l i y) : comG m [] l = none := by
  subst hx; subst hy
  cases hc : comG m [] l with
  | none => rfl
  | some p => exact absurd ((comG_at3 hK h1 h3 hn hc).2.1 i hi hl) he
theorem comG_yes {K : Nat} {x : En} (hK : K < l.length) (hx : x = l[K]) (h1 : 1 ≤ K) (h3 : x.kind = 3) (hg : GoodTo l K) (he : EndAt m K x) : comG m [] l = some (l.take K) := by
  subst hx
  rw [comG_go hg (Nat.le_of_lt hK), comG_end hK rfl he.1 h3, if_neg]
  rintro (h | h | h)
  · omega
  · exact h he.2.1
  · exact h he.2.2
theorem GoodTo.own {K : Nat} (h : GoodTo l K) (hK : K ≤ l.length) : OwnOk (l.take K) := by
  induction K with
  | zero => exact OwnOk.nil
  | succ K ih =>
    have hg := h K (Nat.lt_succ_self _) (by omega)
    rw [List.take_succ_eq_append_getElem (by omega)]
    exact (ih (fun i hi => h i (by omega)) (by omega)).add hg.2.1 hg.1 hg.2.2
end
/-- The versions of the checkpoint group at the head, its stamp, how many entries it has: as the reference tells it. -/
noncomputable def ckR (now : Int) (first : Bool) : List En → Option (List Vn × Int × Nat)
  | [] => none
  | o :: r => if o.kind ≠ 4 ∨ o.chk ≠ 0 then none else if o.stamp ≠ now ∧ ¬ (first = true ∧ now < o.stamp) then none else if (r.length : Int) - 1 < o.count then none else
    match r[o.count.toNat]? with
    | none => none
    | some e => if e.kind = 6 ∧ e.stamp = o.stamp ∧ e.count = o.count ∧ e.chk = 0 then
      (match ckV o.stamp [] (r.take o.count.toNat) with
      | none => none
      | some vs => some (vs, o.stamp, o.count.toNat + 2)) else none
theorem ckR_cons {now : Int} {first : Bool} {o : En} {r : List En} : ckR now first (o :: r) = (if o.kind ≠ 4 ∨ o.chk ≠ 0 then none else if o.stamp ≠ now ∧ ¬ (first = true ∧ now < o.stamp) then none else if (r.length : Int) - 1 < o.count then none else
    match r[o.count.toNat]? with
    | none => none
    | some e => if e.kind = 6 ∧ e.stamp = o.stamp ∧ e.count = o.count ∧ e.chk = 0 then
      (match ckV o.stamp [] (r.take o.count.toNat) with
      | none => none
      | some vs => some (vs, o.stamp, o.count.toNat + 2)) else none) := rfl
theorem nextB_iff {a b : Vn} : nextB a b = true ↔ bytesBefore b.k a.k = true ∨ a.k = b.k ∧ b.stamp < a.stamp := by
  unfold nextB Vn.k
  rw [ByteArray.toList_eq, ByteArray.toList_eq, bytesLess_eq]
  by_cases e : a.key.data.toList = b.key.data.toList
  · rw [e, bB_irrefl]; simp
  · rw [beq_eq_false_iff_ne.2 e]
    rcases bB_total e with h | h
    · have h2 : bytesBefore b.key.data.toList a.key.data.toList = false := by
        cases hh : bytesBefore b.key.data.toList a.key.data.toList
        · rfl
        · have := bB_trans h hh; rw [bB_irrefl] at this; cases this
      rw [h, h2]; simp [e]
    · have h2 : bytesBefore a.key.data.toList b.key.data.toList = false := by
        cases hh : bytesBefore a.key.data.toList b.key.data.toList
        · rfl
        · have := bB_trans h hh; rw [bB_irrefl] at this; cases this
      rw [h, h2]; simp
theorem nextB_trans {a b c : Vn} (h : nextB b a = true) (h' : nextB c b = true) : nextB c a = true := by
  rw [nextB_iff] at h h' ⊢
  rcases h with h | ⟨h1, h2⟩
  · rcases h' with h' | ⟨h3, h4⟩
    · exact .inl (bB_trans h h')
    · exact .inl (by rw [h3]; exact h)
  · rcases h' with h' | ⟨h3, h4⟩
    · exact .inl (by rw [← h1]; exact h')
    · exact .inr ⟨h3.trans h1, by omega⟩
theorem notBad_all {prev : List Vn} {v : Vn} (h : badNext prev v = false) (hp : prev.Pairwise fun a b => nextB b a = true) : ∀ x ∈ prev, nextB v x = true := fun x hx => by
  have hn : prev ≠ [] := List.ne_nil_of_mem hx
  unfold badNext at h
  rw [List.getLast?_eq_some_getLast hn] at h
  have h1 : nextB v (prev.getLast hn) = true := by simpa using h
  rw [← List.dropLast_concat_getLast hn] at hx hp
  rcases List.mem_append.1 hx with hx | hx
  · exact nextB_trans ((List.pairwise_append.1 hp).2.2 x hx _ (List.mem_singleton_self _)) h1
  · rw [List.mem_singleton.1 hx]; exact h1
theorem RelRS.errNext {R : List Vn} {S : PS} {v : Vn} (h : RelRS R S) (hb : v.bad = 0) (hn : ∀ x ∈ R, x.k = v.k → x.stamp < v.stamp) : errP S v = 0 := errP_of hb fun hl => by
  have hne : ofP S v.k ≠ [] := List.ne_nil_of_length_pos hl
  have hla : lastP (ofP S v.k) = ((ofP S v.k).getLast hne).st := by
    conv => lhs; rw [← List.dropLast_concat_getLast hne]
    rw [lastP_snoc]
  rw [hla]
  have hm : vnOf v.k ((ofP S v.k).getLast hne) ∈ ofK R v.k := by
    rw [h.key]
    exact List.mem_map.2 ⟨_, List.getLast_mem hne, rfl⟩
  have h1 := List.mem_filter.1 hm
  exact hn _ h1.1 (by have := h1.2; simpa using this)
theorem RelRS.add {R : List Vn} {S : PS} {v : Vn} (h : RelRS R S) (he : errP S v = 0) : RelRS (R ++ [v]) (applyP S v) := by
  have := h.apply (v := v)
  rw [appRS_0 (by rw [h.err]; exact he), show tryP S v = applyP S v from if_pos he] at this
  exact this
theorem may_of {e : En} (h : e.chk = 0) : e.may := by
  unfold En.chk at h
  by_cases hm : e.may
  · exact hm
  · rw [if_neg hm] at h; cases h
theorem load_ck {top : Int} : ∀ {l : List En} {prev vs : List Vn} {S : PS}, ckV top prev l = some vs → RelRS prev S → (prev.Pairwise fun a b => nextB b a = true) → vs = prev ++ l.map vOf ∧ (loadF S (l.map vOf)).2 = 0 ∧ RelRS vs (loadF S (l.map vOf)).1
  | [], prev, vs, S, h, hr, _ => by
    injection h with h
    subst h
    exact ⟨(List.append_nil _).symm, rfl, hr⟩
  | e :: l, prev, vs, S, h, hr, hp => by
    unfold ckV at h
    split at h
    · cases h
    · rename_i h0
      split at h
      · cases h
      · rename_i h1
        have hk : e.kind = 5 := Decidable.not_not.1 fun hh => h0 (.inl hh)
        have hc : e.chk = 0 := Decidable.not_not.1 fun hh => h0 (.inr (.inl hh))
        have hnx := notBad_all (by simpa using h1) hp
        have hm := may_of hc
        have hb : (vOf e).bad = 0 := by
          obtain ⟨k, s, n, key, v, d⟩ := e
          subst hk
          rw [may_5] at hm
          exact bad_of hm.1 hm.2.1 hm.2.2.2.2.2.1 hm.2.2.2.2.2.2 hm.2.2.1 hm.2.2.2.1
        have he : errP S (vOf e) = 0 := hr.errNext hb fun x hx hxk => by
          rcases nextB_iff.1 (hnx x hx) with hh | hh
          · rw [hxk, bB_irrefl] at hh; cases hh
          · exact hh.2
        obtain ⟨a, b, c⟩ := load_ck (l := l) h (hr.add he) (List.pairwise_append.2 ⟨hp, List.pairwise_singleton _ _, fun x hx y hy => by rw [List.mem_singleton.1 hy]; exact hnx x hx⟩)
        rw [List.map_cons, loadF_cons, if_pos he]
        refine ⟨?_, b, c⟩
        rw [a, List.append_assoc]; rfl
theorem tries_rel {m : Int} : ∀ {vs R : List Vn} {S : PS}, RelRS R S → (∀ v ∈ vs, v.bad = 0 ∧ v.stamp = m ∧ (0 < (ofP S v.k).length → lastP (ofP S v.k) < m)) → (vs.Pairwise fun a b => a.k ≠ b.k) → RelRS (R ++ vs) (tryL S vs)
  | [], R, S, h, _, _ => by rw [List.append_nil]; exact h
  | a :: r, R, S, h, hv, hp => by
    obtain ⟨h1, h2, h3⟩ := hv a (List.mem_cons_self ..)
    obtain ⟨p1, p2⟩ := List.pairwise_cons.1 hp
    have he : errP S a = 0 := errP_of h1 (by rw [h2]; exact h3)
    have hr := h.add he
    rw [show R ++ a :: r = (R ++ [a]) ++ r from by rw [List.append_assoc]; rfl]
    show RelRS _ (tryL (tryP S a) r)
    rw [show tryP S a = applyP S a from if_pos he]
    refine tries_rel (m := m) hr (fun v hv' => ?_) p2
    obtain ⟨q1, q2, q3⟩ := hv v (List.mem_cons_of_mem _ hv')
    refine ⟨q1, q2, ?_⟩
    unfold applyP
    rw [of_put_other (p1 v hv')]
    exact q3
section
variable {l : List En} {start now st : Int} {S : PS} {R vs : List Vn} {k n : Nat} {p : List En}
theorem grp_com (hg : Grp l start S now k) (hr : RelRS R S) (hc : comG (IntKind.i64.wrap (now + 1)) [] (l.drop k) = some p) :
    grpF S now k (l.drop k) = some (tryL S (p.map (wOf (IntKind.i64.wrap (now + 1)))), IntKind.i64.wrap (now + 1), p.length + 1) ∧ RelRS (R ++ p.map (wOf (IntKind.i64.wrap (now + 1)))) (tryL S (p.map (wOf (IntKind.i64.wrap (now + 1))))) ∧ p.length + 1 ≤ (l.drop k).length := by
  obtain ⟨n, hp, h1, hl, hgd, h3, he⟩ := comG_spec hc
  have hown := hgd.own (Nat.le_of_lt hl)
  rw [← hp] at hown
  have hm : 0 ≤ IntKind.i64.wrap (now + 1) ∧ IntKind.i64.wrap (now + 1) ≤ 4611686018427387904 := by
    have hm := may_of he.1
    rw [← he.2.1]
    generalize (l.drop k)[n] = e at *
    obtain ⟨kk, s, nn, key, v, d⟩ := e
    subst h3
    rw [may_m (by decide)] at hm
    exact ⟨hm.2.1, hm.2.2.1⟩
  have hok := hg.ok
  have hw : ∀ x ∈ p, (wOf (IntKind.i64.wrap (now + 1)) x).bad = 0 ∧ (wOf (IntKind.i64.wrap (now + 1)) x).k = x.kb ∧ (wOf (IntKind.i64.wrap (now + 1)) x).stamp = IntKind.i64.wrap (now + 1) := fun x hx => by
    obtain ⟨a, b, c, _⟩ := own_wOf (hown.each x hx).1 (hown.each x hx).2 hm.1 hm.2
    exact ⟨a, b, c⟩
  refine ⟨?_, tries_rel (m := IntKind.i64.wrap (now + 1)) hr (fun v hv => ?_) ?_, ?_⟩
  · have hlen : p.length = n := by rw [hp, List.length_take]; omega
    cases hd : l.drop k with
    | nil => rw [hd] at hl; cases hl
    | cons o r =>
      have hk0 : o.kind = 1 ∨ o.kind = 2 := by
        have := (hgd 0 (by omega) (by omega)).2.1
        simp only [hd, List.getElem_cons_zero] at this
        exact this
      rw [hd] at hc
      rw [grpF_cons, if_neg (by omega), hc]
  · obtain ⟨x, hx, rfl⟩ := List.mem_map.1 hv
    refine ⟨(hw x hx).1, (hw x hx).2.2, fun hl => ?_⟩
    have ho := hok.1.of (k := (wOf (IntKind.i64.wrap (now + 1)) x).k)
    have hne : ofP S (wOf (IntKind.i64.wrap (now + 1)) x).k ≠ [] := List.ne_nil_of_length_pos hl
    have hla : lastP (ofP S (wOf (IntKind.i64.wrap (now + 1)) x).k) = ((ofP S (wOf (IntKind.i64.wrap (now + 1)) x).k).getLast hne).st := by
      conv => lhs; rw [← List.dropLast_concat_getLast hne]
      rw [lastP_snoc]
    rw [hla]
    have h4 := (ho.2 _ (List.getLast_mem hne)).top
    rcases Nat.eq_zero_or_pos k with h0 | h0
    · rw [(hok.2.2.1 h0).1] at hl
      exact absurd hl (Nat.lt_irrefl 0)
    · have h5 := hok.2.2.2 h0
      have h6 : IntKind.i64.wrap (now + 1) = now + 1 := by rw [IntKind.wrap_i64]; omega
      omega
  · rw [List.pairwise_map]
    refine List.Pairwise.imp_of_mem ?_ hown.up
    intro a b ha hb hab e
    rw [(hw a ha).2.1, (hw b hb).2.1] at e
    rw [e, bB_irrefl] at hab
    cases hab
  · rw [hp, List.length_take]; omega
theorem ckR_ckF (h : ckR now (decide (k = 0)) l = some (vs, st, n)) : ∃ S', ckF now k l = some (S', st, n) ∧ RelRS vs S' := by
  cases l with
  | nil => cases h
  | cons o r =>
    rw [ckR_cons] at h
    split at h
    · cases h
    · rename_i h0
      split at h
      · cases h
      · rename_i h1
        split at h
        · cases h
        · rename_i h2
          split at h
          · cases h
          · rename_i e he
            split at h
            · rename_i h3
              split at h
              · cases h
              · rename_i vs' hvs
                injection h with h
                injection h with a h
                injection h with b c
                subst a; subst b; subst c
                obtain ⟨e1, e2, e3⟩ := load_ck hvs RelRS.nil List.Pairwise.nil
                rw [List.nil_append] at e1
                rw [← e1] at e2 e3
                refine ⟨_, ?_, e3⟩
                rw [ckF_cons, if_neg (by rintro (hh | hh); exact h0 (.inr hh); exact h2 hh), if_neg (by
                  rintro ⟨g1, g2⟩
                  refine h1 ⟨g1, ?_⟩
                  rintro ⟨g3, g4⟩
                  have : k = 0 := of_decide_eq_true g3
                  omega), hvs, he]
                simp only
                rw [if_pos h3, if_pos e2]
            · cases h
theorem ckF_ckR {S' : PS} {o : En} {r : List En} (hk : o.kind = 4) (h : ckF now k (o :: r) = some (S', st, n)) : ckR now (decide (k = 0)) (o :: r) ≠ none := by
  rw [ckF_cons] at h
  split at h
  · cases h
  · rename_i h0
    split at h
    · cases h
    · rename_i h1
      split at h
      · cases h
      · rename_i vs hvs
        split at h
        · cases h
        · rename_i e he
          split at h
          · rename_i h3
            rw [ckR_cons, if_neg (by rintro (hh | hh); exact hh hk; exact h0 (.inl hh)), if_neg (by
              rintro ⟨g1, g2⟩
              refine h1 ⟨g1, ?_⟩
              by_cases hk0 : k = 0
              · refine .inr ?_
                by_cases hh : now < o.stamp
                · exact absurd ⟨decide_eq_true hk0, hh⟩ g2
                · omega
              · exact .inl (by omega)), if_neg (fun hh => h0 (.inr hh)), he]
            simp only
            rw [if_pos h3, hvs]
            exact fun hh => by cases hh
          · cases h
theorem grp_ck (h : ckR now (decide (k = 0)) (l.drop k) = some (vs, st, n)) : ∃ S', grpF S now k (l.drop k) = some (S', st, n) ∧ RelRS vs S' := by
  obtain ⟨S', h1, h2⟩ := ckR_ckF h
  refine ⟨S', ?_, h2⟩
  cases hd : l.drop k with
  | nil => rw [hd] at h; cases h
  | cons o r =>
    rw [hd] at h h1
    have hk : o.kind = 4 := by
      rw [ckR_cons] at h
      split at h
      · cases h
      · rename_i h0
        exact Decidable.not_not.1 fun hh => h0 (.inl hh)
    rw [grpF_cons, if_pos hk]
    exact h1
theorem grp_no (hc : comG (IntKind.i64.wrap (now + 1)) [] (l.drop k) = none) (h : ckR now (decide (k = 0)) (l.drop k) = none) : grpF S now k (l.drop k) = none := by
  cases hd : l.drop k with
  | nil => rfl
  | cons o r =>
    rw [hd] at h hc
    rw [grpF_cons]
    by_cases hk : o.kind = 4
    · rw [if_pos hk]
      cases hh : ckF now k (o :: r) with
      | none => rfl
      | some x =>
        obtain ⟨S', st, n⟩ := x
        exact absurd h (ckF_ckR hk hh)
    · rw [if_neg hk, hc]
end
/-! The bytes of the newest pairs. -/
def weightP (k : Nat) (L : List Lv) : Nat := match L.getLast? with | some x => if x.dead = true then 0 else k + x.v.length | none => 0
def liveP (S : PS) : Nat := (S.map fun p => weightP p.1.length p.2).sum
theorem weight_view (k : Nat) (ls : List Lk) : weightL k ls = weightP k (ls.map Lk.x) := by
  unfold weightL weightP lastL
  rw [List.getLast?_map]
  cases hl : ls.getLast? with
  | none =>
    rw [List.getLast?_eq_none_iff] at hl
    subst hl
    rfl
  | some x =>
    have hne : ¬ ls.length = 0 := fun e => by rw [List.length_eq_zero_iff.1 e] at hl; cases hl
    simp only [Option.map_some, Option.getD_some, hne, false_or]
theorem live_view {s : St} : liveN s.cs = liveP s.view := by
  unfold liveN liveP St.view mapA
  rw [List.map_map]
  congr 1
  apply List.map_congr_left
  intro p _
  exact weight_view _ _
/-- What a key weighs, as the reference tells it. -/
noncomputable def weightR (R : List Vn) (k : Key) : Nat := match newL R ⟨k.toArray⟩ 4611686018427387904 with | some v => if v.dead = true then 0 else k.length + v.value.length | none => k.length
noncomputable def liveR (R : List Vn) (ks : List Key) : Nat := (ks.map (weightR R)).sum
theorem RelRS.live {R : List Vn} {S : PS} (h : RelRS R S) : liveR R (keysR R) = liveP S := by
  unfold liveR liveP
  rw [h.keys, List.map_map]
  congr 1
  apply List.map_congr_left
  intro p hp
  show weightR R p.1 = _
  have hof : ofP S p.1 = p.2 := by
    obtain ⟨i, hi, rfl⟩ := List.mem_iff_getElem.1 hp
    unfold ofP
    rw [getA_of (rising_apart h.ok.rising) hi]
    rfl
  have hn := (h.ok.each p hp).1
  unfold weightR weightP
  rw [h.new, show (⟨p.1.toArray⟩ : ByteArray).data.toList = p.1 from by simp, hof, List.getLast?_map, List.getLast?_eq_some_getLast hn]
  rfl
theorem liveR_snoc {R : List Vn} {ks : List Key} {K : Nat} (h : K < ks.length) : liveR R (ks.take (K + 1)) = liveR R (ks.take K) + weightR R ks[K] := by
  unfold liveR
  rw [List.take_succ_eq_append_getElem h, List.map_append, List.sum_append]
  rfl
theorem RelRS.weight {R : List Vn} {S : PS} (h : RelRS R S) {k : Key} (hk : k ∈ keysR R) : weightR R k ≤ 4351 ∧ k.length ≤ 255 := by
  rw [h.keys] at hk
  obtain ⟨p, hp, rfl⟩ := List.mem_map.1 hk
  obtain ⟨_, _, _, h2, ho⟩ := h.ok.each p hp
  refine ⟨?_, h2⟩
  unfold weightR
  rw [h.new]
  cases hg : ((ofP S (⟨p.1.toArray⟩ : ByteArray).data.toList).map (vnOf (⟨p.1.toArray⟩ : ByteArray).data.toList)).getLast? with
  | none => simp only; omega
  | some v =>
    obtain ⟨x, hx, rfl⟩ := List.mem_map.1 (List.mem_of_getLast? hg)
    have := (h.ok.of.2 x hx).len
    show (if x.dead = true then 0 else p.1.length + x.v.length) ≤ 4351
    split <;> omega
end Go.Proofs.Ytmnpchncmbnddaa
