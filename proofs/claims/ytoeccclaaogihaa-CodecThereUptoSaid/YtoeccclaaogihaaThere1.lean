/- CodecThere: the walk. -/
import Derived.Test.YtoeccclaaogihaaThing
namespace Go.Proofs.Ytoeccclaaogihaa
open Go.RowKit

/-- The bytes of things, one behind the other. -/
def flat (ts : List Th) : List UInt8 := (ts.map Th.bytes).flatten
theorem flat_snoc {ts : List Th} {k : Nat} (h : k < ts.length) : flat (ts.take (k + 1)) = flat (ts.take k) ++ (ts[k]).bytes := by
  unfold flat
  rw [List.take_succ_eq_append_getElem h, List.map_append, List.flatten_append]
  simp only [List.map_cons, List.map_nil, List.flatten_cons, List.flatten_nil, List.append_nil]
theorem flat_split {ts : List Th} {k : Nat} (h : k < ts.length) : flat ts = flat (ts.take k) ++ ((ts[k]).bytes ++ flat (ts.drop (k + 1))) := by
  rw [← List.append_assoc, ← flat_snoc h]
  unfold flat
  rw [← List.flatten_append, ← List.map_append, List.take_append_drop]
theorem flat_drop {ts : List Th} {k : Nat} (h : k < ts.length) (more : List UInt8) : (flat ts ++ more).drop (flat (ts.take k)).length = (ts[k]).bytes ++ (flat (ts.drop (k + 1)) ++ more) := by
  rw [flat_split h, List.append_assoc, List.drop_left, List.append_assoc]
theorem flat_ne {ts : List Th} (h : 0 < ts.length) : flat ts ≠ [] := by
  rw [flat_split h]
  intro e
  have := Th.bytes_ne ts[0]
  simp_all
theorem cut_drop {ts : List Th} {k : Nat} (h : k + 1 < ts.length) : ∃ post, (flat ts).dropLast.drop (flat (ts.take k)).length = (ts[k]).bytes ++ post := by
  have hn : flat (ts.drop (k + 1)) ≠ [] := flat_ne (by rw [List.length_drop]; omega)
  refine ⟨(flat (ts.drop (k + 1))).dropLast, ?_⟩
  rw [flat_split (show k < ts.length by omega), List.dropLast_append_of_ne_nil (by simp [hn]), List.dropLast_append_of_ne_nil hn, List.drop_left]
theorem cut_last {ts : List Th} {k : Nat} (h : k + 1 = ts.length) : (flat ts).dropLast.drop (flat (ts.take k)).length = ((ts[k]'(by omega)).bytes).dropLast := by
  have hd : ts.drop (k + 1) = [] := List.drop_of_length_le (by omega)
  rw [flat_split (show k < ts.length by omega), hd]
  rw [show flat [] = [] from rfl, List.append_nil, List.dropLast_append_of_ne_nil (Th.bytes_ne _), List.drop_left]
theorem th_bulk (l : List Th) : (l.map fun t => t.p.length + 4).sum + 1 = (kSlice kTh).bulk l := by
  have h : ∀ l : List Th, (l.map fun t => t.p.length + 4).sum = (l.map kTh.bulk).sum := by
    intro l
    induction l with
    | nil => rfl
    | cons x r ih =>
      have : kTh.bulk x = 1 + (1 + (1 + (x.p.length + 1))) := rfl
      simp only [List.map_cons, List.sum_cons, ih, this]; omega
  rw [h]; rfl
theorem th_mem {l : List Th} : ∀ t ∈ l, t.p.length + 4 ≤ (l.map fun t => t.p.length + 4).sum := by
  induction l with
  | nil => intro t h; cases h
  | cons x r ih =>
    intro t h
    simp only [List.map_cons, List.sum_cons]
    rcases List.mem_cons.1 h with rfl | h
    · omega
    · have := ih t h; omega
theorem th_len (l : List Th) : 4 * l.length ≤ (l.map fun t => t.p.length + 4).sum := by
  induction l with
  | nil => simp
  | cons x r ih => simp only [List.map_cons, List.sum_cons, List.length_cons]; omega
theorem flat_len {l : List Th} (h : ∀ t ∈ l, t.ok ∧ t.p.length ≤ 1048576) : (flat l).length ≤ 10 * (l.map fun t => t.p.length + 4).sum := by
  induction l with
  | nil => simp [flat]
  | cons x r ih =>
    have h1 := h x (by simp)
    have h2 := x.bytes_len h1.1 (by omega)
    have h3 := ih (fun t ht => h t (by simp [ht]))
    have e : flat (x :: r) = x.bytes ++ flat r := rfl
    rw [e, List.length_append]
    simp only [List.map_cons, List.sum_cons]; omega
theorem flat_take_len (l : List Th) (k : Nat) : (flat (l.take k)).length ≤ (flat l).length := by
  have e : flat l = flat (l.take k) ++ flat (l.drop k) := by
    unfold flat
    rw [← List.flatten_append, ← List.map_append, List.take_append_drop]
  rw [e, List.length_append]; omega

theorem back_step {w : World} {g B c' : Nat} {A' : Option Addr} {r r2 : Rd} {b : Bool} (t : Th) (hok : t.ok) (h : RdIs w g r) (hp : BReads w B A' t.p) (hB : B ≤ g) (hl : t.p.length ≤ 1048576) (e : r.back t = (b, r2)) :
    Calls Try.prog 46 #[.pointer (some ⟨g, 0, none⟩), .agg (t.cells A' c')] w fun e w' => e = .returned (.bool b) ∧ RdIs w' g r2 ∧ Keeps (fun k => k = g) w w' := by
  have hg := h.lt
  have hb := back_any (c' := c') t hok h (hp.more (by omega)) (by omega) (fun w' hk => (hp.below (hk.belowAt (by omega) hB)).more (by have := hk.size; omega))
  rw [e] at hb
  exact hb
/-- A thing in its cells, in a world that has grown. -/
theorem th_get {w0 wr : World} {A : Option Addr} {ts : List Th} (hs : kTh.Sl w0 w0.heap.size A ts) (hb : Below w0.heap.size w0 wr) {i : Nat} (hi : i < ts.length) :
    ∃ T, T = ts[i] ∧ T.ok ∧ ∃ b off A' c', A = some ⟨b, off, none⟩ ∧ b < wr.heap.size ∧ wr.cell? ⟨b, off + i * 4, none⟩ = some (.int .i64 T.kind) ∧ wr.cell? ⟨b, off + i * 4 + 1, none⟩ = some (.int .u64 T.v) ∧
      wr.cell? ⟨b, off + i * 4 + 2, none⟩ = some (.int .i64 T.n) ∧ wr.cell? ⟨b, off + i * 4 + 3, none⟩ = some (.slice A' T.p.length c') ∧ Hid (BReads wr w0.heap.size A' T.p) := by
  obtain ⟨b, off, h1, h2, h3, A', c', c0, c1, c2, c3, h4⟩ := th_at (hs.below hb) hi
  exact ⟨_, rfl, h3, b, off, A', c', h1, Nat.lt_of_lt_of_le h2 hb.size, c0, c1, c2, c3, Lib.hid h4⟩
set_option maxRecDepth 100000 in
set_option maxHeartbeats 3200000 in
theorem codecThere_walk {w : World} {A : Option Addr} {c : Nat} {ts : List Th} (hs : kTh.Sl w w.heap.size A ts) (m : Int) (hm0 : 0 ≤ m) (hm1 : m ≤ 255) (hbulk : (kSlice kTh).bulk ts ≤ 1048576) :
    Calls Try.prog 14 #[.slice A ts.length c, .int .u8 m] w fun e w' => e = .returned (.bool true) ∧ Below w.heap.size w w' := by
  have hsum := th_bulk ts
  have hn : ts.length ≤ 1048576 := by have := th_len ts; omega
  have hok : ∀ t ∈ ts, t.ok ∧ t.p.length ≤ 1048576 := by
    intro t ht
    obtain ⟨i, hi⟩ := List.getElem?_of_mem ht
    obtain ⟨hlt, he⟩ := List.getElem?_eq_some_iff.1 hi
    obtain ⟨_, _, _, _, h3, _⟩ := th_at hs hlt
    rw [he] at h3
    have := th_mem t ht
    exact ⟨h3, by omega⟩
  have hfl : (flat ts).length ≤ 10485760 := by have := flat_len hok; omega
  obtain ⟨M, rfl⟩ : ∃ M : UInt8, m = (M.toNat : Int) := ⟨UInt8.ofNat m.toNat, by rw [u8_int _ (by omega)]; omega⟩
  obtain ⟨F, hF⟩ : ∃ F, F = flat ts := ⟨_, rfl⟩
  rw [← hF] at hfl
  have HF := Lib.hid hF
  have HOK := Lib.hid hok
  have HS0 := Lib.hid hs
  clear hs hok hsum hF hbulk
  go_enter Try.func14, Try.ntmps14
  go_wp2
  go_loopw [5, 17] (fun b i wr => ∃ (K : Nat) (L : List UInt8) (A1 : Option Addr) (c1 : Nat), i = .int .i64 K ∧ b = .slice A1 L.length c1 ∧ K ≤ ts.length ∧ L.length ≤ c1 ∧ Hid (L = flat (ts.take K)) ∧ Hid (BReads wr wr.heap.size A1 L) ∧ Hid (Below w.heap.size w wr)) (fun _ i _ => ts.length - (intOf i).toNat)
  case atStart => exact ⟨0, [], none, 0, rfl, rfl, by omega, Nat.le_refl _, Lib.hid rfl, Lib.hid Reads.none_, Lib.hid (Below.refl _ _)⟩
  case round =>
    obtain ⟨K, L, A1, c1, rfl, rfl, hK, hLc, hL, hR, hB⟩ := hrel
    have hLl : L.length ≤ 10485760 := by have := flat_take_len ts K; rw [← HF.out] at this; rw [hL.out]; omega
    by_cases hlt : (K : Int) < ts.length
    · have hKl : K < ts.length := by omega
      obtain ⟨T, hT, hTok, bb, off, A', c', rfl, hbb, s0, s1, s2, s3, hp⟩ := th_get HS0.out hB.out hKl
      have hTp := (HOK.out T (by rw [hT]; exact List.getElem_mem hKl)).2
      have HT := Lib.hid (show flat (ts.take (K + 1)) = L ++ T.bytes from by rw [flat_snoc hKl, hT, hL.out])
      have HTK := Lib.hid hTok
      clear hT hTok hKl
      go_wp2_with fail
      have BA := (Below.refl wr.heap.size wr).alloc (Nat.le_refl _) (.cells #[.int .i64 T.kind, .int .u64 T.v, .int .i64 T.n, .slice A' T.p.length c'] 42)
      have B1 := Lib.hid (hB.out.alloc hB.out.size (.cells #[.int .i64 T.kind, .int .u64 T.v, .int .i64 T.n, .slice A' T.p.length c'] 42))
      have R1 := Lib.hid ((hR.out.below BA).more (BA.size))
      have P1 := Lib.hid ((hp.out.more hB.out.size).below BA |>.more BA.size)
      obtain ⟨W, hW⟩ : ∃ x, x = wr.alloc (.cells #[.int .i64 T.kind, .int .u64 T.v, .int .i64 T.n, .slice A' T.p.length c'] 42) := ⟨_, rfl⟩
      rw [← hW] at B1 R1 P1 ⊢
      clear hW BA s0 s1 s2 s3 hB hR hp
      refine (laid_any T HTK.out R1.out P1.out (by omega)).mono ?_
      rintro e w2 h
      obtain ⟨L2, A2, c2, rfl, E2, O2, R2, B2⟩ := h.named
      have HB := Lib.hid (B1.out.trans (B2.out.mono B1.out.size))
      have hc2 : L2.length ≤ c2 := by obtain ⟨A', c', e, hc, _⟩ := O2.out.slice; injection e with _ _ e; omega
      have HE := Lib.hid (show L2 = flat (ts.take (K + 1)) from by rw [E2.out, HT.out])
      clear h O2 B2 B1 E2 HT P1 R1
      go_wp2
      exact ⟨⟨K + 1, L2, A2, c2, by go_num, rfl, by omega, hc2, HE, R2, HB⟩, by simp [intOf]; omega⟩
    · obtain rfl : K = ts.length := by omega
      obtain rfl : L = F := by rw [hL.out, HF.out, List.take_length]
      have HS := Lib.hid ((HS0.out.below hB.out).more hB.out.size)
      obtain ⟨w0, hw0⟩ : ∃ w0, w0 = wr := ⟨_, rfl⟩
      have BW := Lib.hid (show Below w.heap.size w w0 from by rw [hw0]; exact hB.out)
      have HR := Lib.hid (show BReads w0 w0.heap.size A1 L from by rw [hw0]; exact hR.out)
      replace HS := Lib.hid (show kTh.Sl w0 w0.heap.size A ts from by rw [hw0]; exact HS.out)
      rw [← hw0]
      clear hw0 hB hR hL hK HS0
      go_wp2_with fail
      refine (open_any HR.out (by omega)).mono ?_
      rintro e w1 h
      obtain ⟨g, rfl, hg, hr, hb⟩ := h.out
      have H1 := Lib.hid (show RdIs w1 g ⟨L, (flat (ts.take 0)).length, 0⟩ ∧ Below w0.heap.size w0 w1 from ⟨hr, hb⟩)
      clear h hr hb
      go_wp2
      go_loopw [29] (fun i wr => ∃ K : Nat, i = .int .i64 K ∧ K ≤ ts.length ∧ Hid (RdIs wr g ⟨L, (flat (ts.take K)).length, 0⟩ ∧ Below w0.heap.size w0 wr)) (fun i _ => ts.length - (intOf i).toNat)
      case atStart => exact ⟨0, rfl, by omega, H1⟩
      case round =>
        obtain ⟨K, rfl, hK, hH⟩ := hrel
        by_cases hlt : (K : Int) < ts.length
        · have hKl : K < ts.length := by omega
          obtain ⟨T, hT, hTok, bb, off, A', c', rfl, hbb, s0, s1, s2, s3, hp⟩ := th_get HS.out hH.out.2 hKl
          have hTp := (HOK.out T (by rw [hT]; exact List.getElem_mem hKl)).2
          have HBK := Lib.hid (back_there (r := ⟨L, (flat (ts.take K)).length, 0⟩) (t := T) (post := flat (ts.drop (K + 1)) ++ []) hTok (by omega) rfl (by show L.drop _ = _; have := flat_drop hKl []; rw [List.append_nil, ← HF.out] at this; rw [hT]; exact this))
          have HT := Lib.hid (show (flat (ts.take K)).length + T.bytes.length = (flat (ts.take (K + 1))).length from by rw [flat_snoc hKl, hT, List.length_append])
          have HTK := Lib.hid hTok
          clear hT hTok hKl
          go_wp2_with fail
          have BA := (Below.refl wr.heap.size wr).alloc (Nat.le_refl _) (.cells #[.int .i64 T.kind, .int .u64 T.v, .int .i64 T.n, .slice A' T.p.length c'] 42)
          have B1 := Lib.hid (hH.out.2.alloc hH.out.2.size (.cells #[.int .i64 T.kind, .int .u64 T.v, .int .i64 T.n, .slice A' T.p.length c'] 42))
          have R1 := Lib.hid (hH.out.1.below BA)
          have P1 := Lib.hid (hp.out.below (BA.mono hH.out.2.size))
          obtain ⟨W, hW⟩ : ∃ x, x = wr.alloc (.cells #[.int .i64 T.kind, .int .u64 T.v, .int .i64 T.n, .slice A' T.p.length c'] 42) := ⟨_, rfl⟩
          rw [← hW] at B1 R1 P1 ⊢
          clear hW BA s0 s1 s2 s3 hH hp
          refine (back_step T HTK.out R1.out P1.out hg hTp HBK.out).mono ?_
          rintro e w2 ⟨rfl, hr, hk⟩
          rw [HT.out] at hr
          have R2 := Lib.hid hr
          have B2 := Lib.hid (B1.out.trans (hk.belowAt B1.out.size hg))
          clear hr hk P1 R1 B1 HBK HT
          go_wp2_with fail
          refine (fault_any R2.out).mono ?_
          rintro e w3 ⟨rfl, rfl⟩
          have HH := Lib.hid (show RdIs w2 g ⟨L, (flat (ts.take (K + 1))).length, 0⟩ ∧ Below w0.heap.size w0 w2 from ⟨R2.out, B2.out⟩)
          clear R2 B2
          go_wp2
          exact ⟨⟨K + 1, by go_num, by omega, HH⟩, by simp [intOf]; omega⟩
        · obtain rfl : K = ts.length := by omega
          have R1 := Lib.hid (show RdIs wr g ⟨L, L.length, 0⟩ from by have := hH.out.1; rw [List.take_length, ← HF.out] at this; exact this)
          have B1 := Lib.hid hH.out.2
          have he : Rd.end_ ⟨L, L.length, 0⟩ = 0 := by unfold Rd.end_ Rd.left; simp
          clear hH hK
          go_wp2_with fail
          have hend := end_any R1.out
          rw [he] at hend
          refine hend.mono ?_
          rintro e w2 ⟨rfl, k1, hk1⟩
          have B2 := Lib.hid (show Below w0.heap.size w0 w2 from by rw [hk1]; exact below_drewN B1.out k1)
          clear hend hk1 he R1 B1
          go_wp2_with fail
          refine codecFixed_any.mono ?_
          rintro e w3 ⟨rfl, hb⟩
          have B3 := Lib.hid (B2.out.trans (hb.mono B2.out.size))
          clear hb B2
          go_wp2_with (at_builtin; refine Stop.of ?_)
          have B4 := Lib.hid (B3.out.alloc B3.out.size (.cells #[] 5))
          have Q4 := Lib.hid (HR.out.below B4.out)
          refine ⟨append_bytes (empty_owns w3) Q4.out.src (by simp only [List.length_nil]; omega) (by simp) rfl rfl rfl rfl ?_⟩
          intro v5 w5 ho hg5 _
          rw [List.nil_append] at ho
          have B5 := Lib.hid (B3.out.trans ((show Below w3.heap.size w3 w5 from below_grown ((Below.refl _ _).alloc (Nat.le_refl _) _) (empty_owns w3) hg5).mono B3.out.size))
          have O5 := Lib.hid (owns_less ho B3.out.size)
          clear ho hg5 Q4 B4 B3
          go_wp2_with (at_builtin; refine Stop.of ?_)
          refine ⟨append_bytes (m := [M]) (O5.out.alloc _) (byte_src w5 M rfl) (by simp only [List.length_cons, List.length_nil]; omega) (by have := B5.out.size; simp; omega) rfl rfl rfl rfl ?_⟩
          intro v6 w6 ho hg6 _
          obtain ⟨L3, hL3⟩ : ∃ L3, L3 = L ++ [M] := ⟨_, rfl⟩
          rw [← hL3] at ho
          have HL3 := Lib.hid hL3
          have hL3l : L3.length ≤ 10485761 := by rw [hL3, List.length_append]; simp only [List.length_cons, List.length_nil]; omega
          have B6 := Lib.hid (below_grown (B5.out.alloc B5.out.size _) (O5.out.alloc _) hg6)
          obtain ⟨A6, c6, rfl, _, hr6⟩ := ho.slice
          have R6 := Lib.hid hr6
          clear ho hr6 hg6 hL3 B5 O5
          go_wp2_with fail
          refine (open_any R6.out (by omega)).mono ?_
          rintro e w7 h
          obtain ⟨g7, rfl, hg7, hr, hb⟩ := h.out
          have H7 := Lib.hid (show RdIs w7 g7 ⟨L3, (flat (ts.take 0)).length, 0⟩ ∧ Below w0.heap.size w0 w7 from ⟨hr, B6.out.trans (hb.mono B6.out.size)⟩)
          have hg0 : w0.heap.size ≤ g7 := Nat.le_trans B6.out.size hg7
          clear h hr hb hg7 B6 R6
          go_wp2
          go_loopw [59] (fun i wr => ∃ K : Nat, i = .int .i64 K ∧ K ≤ ts.length ∧ Hid (RdIs wr g7 ⟨L3, (flat (ts.take K)).length, 0⟩ ∧ Below w0.heap.size w0 wr)) (fun i _ => ts.length - (intOf i).toNat)
          case atStart => exact ⟨0, rfl, by omega, H7⟩
          case round =>
            obtain ⟨K, rfl, hK, hH⟩ := hrel
            by_cases hlt : (K : Int) < ts.length
            · have hKl : K < ts.length := by omega
              obtain ⟨T, hT, hTok, bb, off, A', c', rfl, hbb, s0, s1, s2, s3, hp⟩ := th_get HS.out hH.out.2 hKl
              have hTp := (HOK.out T (by rw [hT]; exact List.getElem_mem hKl)).2
              have HBK := Lib.hid (back_there (r := ⟨L3, (flat (ts.take K)).length, 0⟩) (t := T) (post := flat (ts.drop (K + 1)) ++ [M]) hTok (by omega) rfl (by show L3.drop _ = _; have := flat_drop hKl [M]; rw [← HF.out, ← HL3.out] at this; rw [hT]; exact this))
              have HT := Lib.hid (show (flat (ts.take K)).length + T.bytes.length = (flat (ts.take (K + 1))).length from by rw [flat_snoc hKl, hT, List.length_append])
              have HTK := Lib.hid hTok
              clear hT hTok hKl
              go_wp2_with fail
              have BA := (Below.refl wr.heap.size wr).alloc (Nat.le_refl _) (.cells #[.int .i64 T.kind, .int .u64 T.v, .int .i64 T.n, .slice A' T.p.length c'] 42)
              have B1 := Lib.hid (hH.out.2.alloc hH.out.2.size (.cells #[.int .i64 T.kind, .int .u64 T.v, .int .i64 T.n, .slice A' T.p.length c'] 42))
              have R1 := Lib.hid (hH.out.1.below BA)
              have P1 := Lib.hid (hp.out.below (BA.mono hH.out.2.size))
              obtain ⟨W, hW⟩ : ∃ x, x = wr.alloc (.cells #[.int .i64 T.kind, .int .u64 T.v, .int .i64 T.n, .slice A' T.p.length c'] 42) := ⟨_, rfl⟩
              rw [← hW] at B1 R1 P1 ⊢
              clear hW BA s0 s1 s2 s3 hp
              refine (back_step T HTK.out R1.out P1.out hg0 hTp HBK.out).mono ?_
              rintro e w8 ⟨rfl, hr, hk⟩
              rw [HT.out] at hr
              have HH := Lib.hid (show RdIs w8 g7 ⟨L3, (flat (ts.take (K + 1))).length, 0⟩ ∧ Below w0.heap.size w0 w8 from ⟨hr, B1.out.trans (hk.belowAt B1.out.size hg0)⟩)
              clear hr hk P1 R1 B1 HBK HT hH
              go_wp2
              exact ⟨⟨K + 1, by go_num, by omega, HH⟩, by simp [intOf]; omega⟩
            · obtain rfl : K = ts.length := by omega
              have R1 := Lib.hid (show RdIs wr g7 ⟨L3, L.length, 0⟩ from by have := hH.out.1; rw [List.take_length, ← HF.out] at this; exact this)
              have B1 := Lib.hid hH.out.2
              have hll : L3.length = L.length + 1 := by rw [HL3.out, List.length_append]; rfl
              have he : Rd.end_ ⟨L3, L.length, 0⟩ = 22 := by unfold Rd.end_ Rd.left; simp only; rw [hll]; simp; omega
              have hlf : Rd.left ⟨L3, L.length, 0⟩ = 1 := by unfold Rd.left; simp only; rw [hll]; omega
              clear hH hK hll
              go_wp2_with fail
              have hend := end_any R1.out
              rw [he] at hend
              refine hend.mono ?_
              rintro e w8 ⟨rfl, k1, hk1⟩
              have B8 := Lib.hid (show Below w0.heap.size w0 w8 from by rw [hk1]; exact below_drewN B1.out k1)
              have R8 := Lib.hid (show RdIs w8 g7 ⟨L3, L.length, 0⟩ from by rw [hk1]; exact R1.out.below (below_drewN (Below.refl _ _) k1))
              clear hend hk1 he R1 B1
              go_wp2_with fail
              have hend := left_any R8.out
              rw [hlf] at hend
              refine hend.mono ?_
              rintro e w9 ⟨rfl, k1, hk1⟩
              have B9 := Lib.hid (show Below w0.heap.size w0 w9 from by rw [hk1]; exact below_drewN B8.out k1)
              clear hend hk1 hlf R8 B8
              by_cases hts : ts.length = 0
              · have hz : ((ts.length : Int) == 0) = true := by rw [beq_iff_eq]; omega
                clear hts
                go_wp2
                go_ret
                exact ⟨rfl, BW.out.trans (B9.out.mono BW.out.size)⟩
              · have hz : ((ts.length : Int) == 0) = false := by rw [beq_eq_false_iff_ne]; omega
                have hpos : 1 ≤ ts.length := by omega
                have hne := flat_ne hpos
                rw [← HF.out] at hne
                have hL1 : 1 ≤ L.length := Nat.pos_of_ne_zero (fun e => hne (List.eq_nil_of_length_eq_zero e))
                clear hts hne
                go_wp2_with fail
                obtain ⟨D, hD⟩ : ∃ D, D = L.dropLast := ⟨_, rfl⟩
                have hDl : D.length + 1 = L.length := by rw [hD, List.length_dropLast]; omega
                have RD := Lib.hid (show BReads w9 w0.heap.size A1 D from by
                  have h1 := HR.out.below B9.out
                  refine ⟨by rw [bys_length, Nat.mul_one], fun hp => ?_⟩
                  obtain ⟨b, off, e, hb, hc⟩ := h1.2 (by omega)
                  refine ⟨b, off, e, hb, fun j u hu => hc j u ?_⟩
                  have hj : j < D.length := by have := (List.getElem?_eq_some_iff.1 hu).1; rwa [bys_length] at this
                  rw [← hu, bys_get, bys_get, hD, List.getElem?_dropLast, if_pos (by omega)])
                have HD := Lib.hid hD
                have hdi : (L.length : Int) - 1 = (D.length : Int) := by omega
                clear hD
                have hdn : L.length - 1 = D.length := by omega
                rw [hdn]
                refine (open_any RD.out (by omega)).mono ?_
                rintro e w10 h
                obtain ⟨g4, rfl, hg4, hr, hb⟩ := h.out
                have hg40 : w0.heap.size ≤ g4 := Nat.le_trans B9.out.size hg4
                have H4 := Lib.hid (show RdIs w10 g4 ⟨D, 0, 0⟩ ∧ Below w0.heap.size w0 w10 from ⟨hr, B9.out.trans (hb.mono B9.out.size)⟩)
                clear h hr hb hg4 RD B9 hdn hdi
                go_wp2
                go_loopw [86] (fun i wr => ∃ (K : Nat) (R : Rd), i = .int .i64 K ∧ K ≤ ts.length ∧ Hid (RdIs wr g4 R ∧ Below w0.heap.size w0 wr) ∧ Hid (K < ts.length → R = ⟨D, (flat (ts.take K)).length, 0⟩) ∧ Hid (K = ts.length → R.f = 20)) (fun i _ => ts.length - (intOf i).toNat)
                case atStart => exact ⟨0, _, rfl, by omega, H4, Lib.hid (fun _ => rfl), Lib.hid (fun h => by omega)⟩
                case round =>
                  obtain ⟨K, R, rfl, hK, hH, hR1, hR2⟩ := hrel
                  by_cases hlt : (K : Int) < ts.length
                  · have hKl : K < ts.length := by omega
                    obtain rfl := hR1.out hKl
                    obtain ⟨T, hT, hTok, bb, off, A', c', rfl, hbb, s0, s1, s2, s3, hp⟩ := th_get HS.out hH.out.2 hKl
                    have hTp := (HOK.out T (by rw [hT]; exact List.getElem_mem hKl)).2
                    by_cases hlast : K + 1 < ts.length
                    · obtain ⟨post, hpost⟩ := cut_drop hlast
                      have HBK := Lib.hid (back_there (r := ⟨D, (flat (ts.take K)).length, 0⟩) (t := T) (post := post) hTok (by omega) rfl (by show D.drop _ = _; rw [HD.out, HF.out, hT]; exact hpost))
                      have HT := Lib.hid (show (flat (ts.take K)).length + T.bytes.length = (flat (ts.take (K + 1))).length from by rw [flat_snoc hKl, hT, List.length_append])
                      have HTK := Lib.hid hTok
                      have hz4 : (K : Int) < (ts.length : Int) - 1 := by omega
                      clear hT hTok hKl hpost hR1 hR2
                      go_wp2_with fail
                      have BA := (Below.refl wr.heap.size wr).alloc (Nat.le_refl _) (.cells #[.int .i64 T.kind, .int .u64 T.v, .int .i64 T.n, .slice A' T.p.length c'] 42)
                      have B1 := Lib.hid (hH.out.2.alloc hH.out.2.size (.cells #[.int .i64 T.kind, .int .u64 T.v, .int .i64 T.n, .slice A' T.p.length c'] 42))
                      have R1 := Lib.hid (hH.out.1.below BA)
                      have P1 := Lib.hid (hp.out.below (BA.mono hH.out.2.size))
                      have KN := Lib.hid (Blk.new wr 42 #[.int .i64 T.kind, .int .u64 T.v, .int .i64 T.n, .slice A' T.p.length c'])
                      obtain ⟨W, hW⟩ : ∃ x, x = wr.alloc (.cells #[.int .i64 T.kind, .int .u64 T.v, .int .i64 T.n, .slice A' T.p.length c'] 42) := ⟨_, rfl⟩
                      obtain ⟨sW, hsW⟩ : ∃ s, s = wr.heap.size := ⟨_, rfl⟩
                      rw [← hW] at B1 R1 P1 KN ⊢
                      rw [← hsW] at KN ⊢
                      clear hW BA s0 s1 s2 s3 hp hsW
                      have q0 := KN.out.cell 0
                      have q1 := KN.out.cell 1
                      have q2 := KN.out.cell 2
                      have q3 := KN.out.cell 3
                      simp at q0 q1 q2 q3
                      refine (fault_any R1.out).mono ?_
                      rintro e w11 ⟨rfl, rfl⟩
                      go_wp2_with fail
                      refine (back_step T HTK.out R1.out P1.out hg40 hTp HBK.out).mono ?_
                      rintro e w12 ⟨rfl, hr, hk⟩
                      rw [HT.out] at hr
                      have R2 := Lib.hid hr
                      have B2 := Lib.hid (B1.out.trans (hk.belowAt B1.out.size hg40))
                      clear hr hk P1 R1 B1 HBK HT hH q0 q1 q2 q3 KN
                      go_wp2_with fail
                      refine (fault_any R2.out).mono ?_
                      rintro e w13 ⟨rfl, rfl⟩
                      have HH := Lib.hid (show RdIs w12 g4 ⟨D, (flat (ts.take (K + 1))).length, 0⟩ ∧ Below w0.heap.size w0 w12 from ⟨R2.out, B2.out⟩)
                      clear R2 B2
                      go_wp2
                      exact ⟨⟨K + 1, _, by go_num, by omega, HH, Lib.hid (fun _ => rfl), Lib.hid (fun h => by omega)⟩, by simp [intOf]; omega⟩
                    · have hKn : K + 1 = ts.length := by omega
                      have HBK := Lib.hid (back_cut (r := ⟨D, (flat (ts.take K)).length, 0⟩) (t := T) hTok (by omega) rfl (by show D.drop _ = _; rw [HD.out, HF.out, hT]; exact cut_last hKn))
                      have HTK := Lib.hid hTok
                      have hz4 : (ts.length : Int) - 1 ≤ (K : Int) := by omega
                      clear hT hTok hKl hR1 hR2 hlast
                      go_wp2_with fail
                      have BA := (Below.refl wr.heap.size wr).alloc (Nat.le_refl _) (.cells #[.int .i64 T.kind, .int .u64 T.v, .int .i64 T.n, .slice A' T.p.length c'] 42)
                      have B1 := Lib.hid (hH.out.2.alloc hH.out.2.size (.cells #[.int .i64 T.kind, .int .u64 T.v, .int .i64 T.n, .slice A' T.p.length c'] 42))
                      have R1 := Lib.hid (hH.out.1.below BA)
                      have P1 := Lib.hid (hp.out.below (BA.mono hH.out.2.size))
                      have KN := Lib.hid (Blk.new wr 42 #[.int .i64 T.kind, .int .u64 T.v, .int .i64 T.n, .slice A' T.p.length c'])
                      obtain ⟨W, hW⟩ : ∃ x, x = wr.alloc (.cells #[.int .i64 T.kind, .int .u64 T.v, .int .i64 T.n, .slice A' T.p.length c'] 42) := ⟨_, rfl⟩
                      obtain ⟨sW, hsW⟩ : ∃ s, s = wr.heap.size := ⟨_, rfl⟩
                      rw [← hW] at B1 R1 P1 KN ⊢
                      rw [← hsW] at KN ⊢
                      clear hW BA s0 s1 s2 s3 hp hsW
                      have q0 := KN.out.cell 0
                      have q1 := KN.out.cell 1
                      have q2 := KN.out.cell 2
                      have q3 := KN.out.cell 3
                      simp at q0 q1 q2 q3
                      refine (fault_any R1.out).mono ?_
                      rintro e w11 ⟨rfl, rfl⟩
                      go_wp2_with fail
                      obtain ⟨rb, r2, hr2⟩ : ∃ b r2, Rd.back ⟨D, (flat (ts.take K)).length, 0⟩ T = (b, r2) := ⟨_, _, rfl⟩
                      have hr2f : r2.f = 20 := by have := HBK.out; rw [hr2] at this; rw [show r2 = _ from this]
                      have HR2 := Lib.hid hr2
                      have HR2F := Lib.hid hr2f
                      clear hr2 hr2f
                      refine (back_step T HTK.out R1.out P1.out hg40 hTp HR2.out).mono ?_
                      rintro e w12 ⟨rfl, hr, hk⟩
                      have HH := Lib.hid (show RdIs w12 g4 r2 ∧ Below w0.heap.size w0 w12 from ⟨hr, B1.out.trans (hk.belowAt B1.out.size hg40)⟩)
                      clear hr hk P1 R1 B1 HBK hH q0 q1 q2 q3 KN HR2
                      go_wp2
                      exact ⟨⟨K + 1, r2, by go_num, by omega, HH, Lib.hid (fun h => by omega), Lib.hid (fun _ => HR2F.out)⟩, by simp [intOf]; omega⟩
                  · have hKn : K = ts.length := by omega
                    have hrf := hR2.out hKn
                    have hre : R.end_ = 20 := by unfold Rd.end_; rw [hrf]; rfl
                    have HE := Lib.hid hre
                    have hfa := fault_any hH.out.1
                    rw [hrf] at hfa
                    clear hrf hre hKn
                    go_wp2_with fail
                    refine hfa.mono ?_
                    rintro e w11 ⟨rfl, rfl⟩
                    clear hfa
                    go_wp2_with fail
                    have hea := end_any hH.out.1
                    rw [HE.out] at hea
                    refine hea.mono ?_
                    rintro e w12 ⟨rfl, k1, hk1⟩
                    have BZ := Lib.hid (show Below w0.heap.size w0 w12 from by rw [hk1]; exact below_drewN hH.out.2 k1)
                    clear hea hk1
                    go_wp2
                    go_ret
                    exact ⟨rfl, BW.out.trans (BZ.out.mono BW.out.size)⟩
end Go.Proofs.Ytoeccclaaogihaa
