/- Contracts and plain laws that this claim leans on, laid together: Ent12, EntL2, Wal4, Wal5, EqI, WalK, RowS, Stor1, Stor2. -/
import Derived.Test.YtmnpchncmbnddaaGreatG09
import Derived.Test.YtmnpchncmbnddaaGreatG10
import Derived.Deep.Cut
import Derived.Test.YtmnpchncmbnddaaGreatG08
import Derived.Sort.CutIn
import Derived.BigQuiet
import Derived.Test.YtmnpchncmbnddaaGreatG02
import Derived.Deep.QuietTactic
import Derived.Maps.OwnSet
import Derived.BigRegion
set_option linter.all false
set_option linter.unusedVariables false
set_option linter.unusedSimpArgs false
set_option linter.unnecessarySimpa false
/- awake: some calls whose answers the document fixes. -/
namespace Go.Proofs.YtmnpchncmbnddaaGreat
open Go.RowKit

end Go.Proofs.YtmnpchncmbnddaaGreat
/- EntryReads: the walk. -/
namespace Go.Proofs.YtmnpchncmbnddaaGreat
open Go.RowKit

def En.zero : En := ⟨0, 0, 0, ⟨#[]⟩, [], false⟩
end Go.Proofs.YtmnpchncmbnddaaGreat
/- Logs, by contract: Entries. -/
namespace Go.Proofs.YtmnpchncmbnddaaGreat
open Go.RowKit
attribute [local go_sem] Oper.semAt_some

set_option maxRecDepth 100000 in
set_option maxHeartbeats 3200000 in
theorem lEntries_any {w : World} {gl : Nat} {d : Dk} (i : Nat) {p : Pt} (h : (lgItem gl d i).P w) (hn : d.ps.length ≤ 16) (hi0 : d.ps[i]? = some p) (hb0 : 0 ≤ p.a.base) (hb1 : p.a.base ≤ 4611686018427387904) (hl : p.a.l.length ≤ 8796093022208) (hs : p.a.safe ≤ p.a.l.length) :
    Calls Tryz.prog 33 #[.pointer (some ⟨gl, 0, none⟩)] w fun e w' => ∃ (ts : List Told) (A9 A10 : Option Addr) (c9 c10 : Nat), e = .returned (.tuple #[.slice A9 ts.length c9, .slice A10 ts.length c10]) ∧
      ∃ es : List Nat, (ts.map Told.x).zip es = tellF p.a.l ∧ es.length = ts.length ∧ Turn (Item.all []) w (Item.all (Item.rowT 105 6 (.slice A9 ts.length c9) ts.length (toldCells ts) :: Item.rowT 3 1 (.slice A10 ts.length c10) ts.length (endsV p.a.base es) :: toldRows ts)) w' := by
  have HI := Lib.hid h
  have T0 := Lib.hid (Turn.refl (x := Item.all []) (w := w) ⟨fun _ h => (by cases h), List.Pairwise.nil⟩)
  obtain ⟨L, hL⟩ : ∃ L, L = p.a.l := ⟨_, rfl⟩
  obtain ⟨bs, hbs⟩ : ∃ bs, bs = p.a.base := ⟨_, rfl⟩
  obtain ⟨sf, hsf⟩ : ∃ sf, sf = p.a.safe := ⟨_, rfl⟩
  have HB := lBounds_any i h hn hi0 hb0 hb1 (by omega) hs
  have HRD := fun (w' : World) (h' : (lgItem gl d i).P w') => dRead_any (lg_disk h') hn i hi0 0 p.a.l.length (by omega) hb0 hb1 (by omega)
  rw [← hL, ← hbs, ← hsf] at HB
  rw [← hL, ← hbs] at HRD
  rw [← hL] at hl hs ⊢
  rw [← hbs] at hb0 hb1 ⊢
  rw [← hsf] at hs
  have HBd := Lib.hid HB
  have HRd := Lib.hid HRD
  clear hL hbs hsf HB HRD h hi0
  refine callsIn_wide.1 (callsIn_of_wp_marks (n := 6) Tryz.func33 rfl trivial (wpIn_wide.2 ?_) rfl)
  simp only [Tryz.ntmps33, List.size_toArray, List.length_cons, List.length_nil, Nat.reduceAdd, Nat.reduceSub, Array.replicate_succ, Array.replicate_zero, List.push_toArray, List.append_toArray, List.nil_append, List.cons_append]
  go_wp2_with fail
  refine HBd.out.mono ?_
  rintro e w1 ⟨rfl, hb⟩
  have T1 := Lib.hid (T0.out.go hb)
  clear T0 hb
  have HI1 := Lib.hid (Item.go HI.out T1.out.free)
  go_upto_region 4 with fail
  obtain ⟨w2, hw2⟩ : ∃ x, x = w1.alloc (.cells #[.int .i64 bs] 3) := ⟨_, rfl⟩
  obtain ⟨g4, hg4⟩ : ∃ x, x = w1.heap.size := ⟨_, rfl⟩
  have T2 := Lib.hid (show Turn _ _ _ w2.drew from by rw [hw2]; exact (T1.out.more (y := Item.blk g4 3 #[.int .i64 bs]) ((Below.refl _ _).alloc (Nat.le_refl _) _) (by rw [hg4]; exact Blk.new _ _ _) (fun k hk => by cases hk; rw [hg4]; exact Nat.le_refl _)).go (Below.refl _ _).drew)
  rw [← hw2, ← hg4]
  clear hw2 hg4 T1 HI1
  have HI2 := Lib.hid (Item.go HI.out T2.out.free)
  have y0 := (lg_blk HI2.out).cell 0
  have y1 := (lg_blk HI2.out).cell 1
  have y2 := (show Blk w2.drew g4 3 #[.int .i64 bs] from T2.out.get (i := 0) rfl).cell 0
  simp [logCells] at y0 y1 y2
  have HX := HRd.out w2.drew HI2.out
  rw [show bs + ((0 : Nat) : Int) = bs from by omega] at HX
  have HXX := Lib.hid HX
  clear HX
  have hd1 : bs + (L.length : Int) - bs = (L.length : Int) := by omega
  have hd2 : IntKind.i64.wrap (L.length : Int) = (L.length : Int) := by rw [IntKind.wrap_i64]; omega
  go_region_held3 (fun w' => w'.cell? ⟨gl, 0, none⟩ = some (.pointer (some ⟨d.g, 0, none⟩)) ∧ w'.cell? ⟨gl, 1, none⟩ = some (.int .i64 (i : Int)) ∧ w'.cell? ⟨g4, 0, none⟩ = some (.int .i64 bs)) (first | (with_reducible exact ⟨y0, y1, y2⟩) | (with_reducible exact ⟨z0, z1, z2⟩) | go_keep) (first | (go_at_call 59; refine HXX.out.mono ?_; rintro e w3 ⟨A7, c7, rfl, ho, hb⟩; have O3 := Lib.hid ho; have T3 := Lib.hid (T2.out.go hb); have HI3 := Lib.hid (Item.go HI.out T3.out.free); have z0 := (lg_blk HI3.out).cell 0; have z1 := (lg_blk HI3.out).cell 1; have z2 := (show Blk w3 g4 3 #[.int .i64 bs] from T3.out.get (i := 0) rfl).cell 0; simp [logCells] at z0 z1 z2; clear ho hb))
  have R3 := Lib.hid (show BReads w3 w3.heap.size A7 L from by have h1 := O3.out.reads; rwa [List.drop_zero, List.take_length] at h1)
  clear O3 T2 HI2 HXX z0 z1 z2 y0 y1 y2 hd1 hd2 HBd HRd
  go_upto_region 7 with fail
  obtain ⟨w4, hw4⟩ : ∃ x, x = w3.alloc (.cells #[.slice none 0 0] 63) := ⟨_, rfl⟩
  obtain ⟨g9, hg9⟩ : ∃ x, x = w3.heap.size := ⟨_, rfl⟩
  have T4 := Lib.hid (show Turn _ _ _ w4 from by rw [hw4]; exact T3.out.more (y := Item.blk g9 63 #[.slice none 0 0]) ((Below.refl _ _).alloc (Nat.le_refl _) _) (by rw [hg9]; exact Blk.new _ _ _) (fun k hk => by cases hk; rw [hg9]; exact Nat.le_refl _))
  have R4 := Lib.hid (show BReads w4 w4.heap.size A7 L from by rw [hw4]; exact (R3.out.below ((Below.refl _ _).alloc (Nat.le_refl _) _)).more (by simp))
  rw [← hw4, show w3.heap.size + 1 = w4.heap.size from by rw [hw4]; simp, ← hg9]
  clear hw4 hg9 T3 R3
  obtain ⟨w5, hw5⟩ : ∃ x, x = w4.alloc (.cells #[.slice none 0 0] 68) := ⟨_, rfl⟩
  obtain ⟨g10, hg10⟩ : ∃ x, x = w4.heap.size := ⟨_, rfl⟩
  have T5 := Lib.hid (show Turn _ _ _ w5 from by rw [hw5]; exact T4.out.more (y := Item.blk g10 68 #[.slice none 0 0]) ((Below.refl _ _).alloc (Nat.le_refl _) _) (by rw [hg10]; exact Blk.new _ _ _) (fun k hk => by cases hk; rw [hg10]; exact Nat.le_refl _))
  have R5 := Lib.hid (show BReads w5 w5.heap.size A7 L from by rw [hw5]; exact (R4.out.below ((Below.refl _ _).alloc (Nat.le_refl _) _)).more (by simp))
  rw [← hw5, ← hg10]
  clear hw5 hg10 T4 R4
  go_wp2_with fail
  refine (all_any (c := c7) R5.out (by omega)).mono ?_
  rintro e w6 ⟨A8, c8, rfl, hcell, hc8, ho8, hlt8, hb⟩
  have T6 := Lib.hid (T5.out.go hb)
  have HCELL := Lib.hid hcell
  have HO8 := Lib.hid ho8
  clear hcell ho8
  go_wp2_with fail
  refine (wpIn_wide (n := 6)).1 ?_
  have HSEQ := all_seq (w0 := w6) (n := 5) (bx := w5.heap.size) (m₀ := w5.heap.size) (c := c8) (A := A8) (b := L) (by decide) (by omega) hc8 ⟨Nat.le_refl _, hlt8⟩ HCELL.out HO8.out
  obtain ⟨X0, hX0⟩ : ∃ X, X = Item.all [Item.blk g10 68 #[.slice none 0 0], Item.blk g9 63 #[.slice none 0 0], Item.blk g4 3 #[.int .i64 bs]] := ⟨_, rfl⟩
  have T0 := Lib.hid (Turn.refl T6.out.p)
  have HLT := Lib.hid (show ∀ k, X0.own k → k < w5.heap.size from fun k hk => (Item.all _).lt T5.out.p (by rw [hX0] at hk; exact hk))
  rw [← hX0] at T6
  have HX0 := Lib.hid hX0
  clear hX0 T5 hb
  refine range_got (F := Fence.wide) (n := 6) rfl (by decide) rfl trivial (fun caps w => callFunc_enter 145 Tryz.f145 _ Tryz.func145 rfl (by kernel_rfl) caps w) HSEQ (fun h k => h.trans k) ?hKb
    (EntI X0 w6 g9 g10 g4 bs) (fun c pre W => c = .exit 0 ∧ ∃ xs x, pre = xs ++ [x] ∧ EntI X0 w6 g9 g10 g4 bs xs W ∧ ¬ ∃ y : En, y.may ∧ y.enc = x.p) (entI_own (Nat.le_refl _)) ?hIx ?h0 ?hassign ?hbody ?hdone ?hstop
  case hassign =>
    intro l x W K hK
    simp only [gotFrame, List.setIfInBounds_toArray, List.set_cons_zero, List.set_cons_succ] at hK ⊢
    gi_wp2
    exact hK
  case hKb =>
    intro W l o o' hl _ _ _
    have hg := grownBy_putObj' W l o'
    refine ⟨hg.size, fun k _ h2 => ?_⟩
    simp [World.putObj, Array.getElem?_setIfInBounds]
    omega
  case hIx =>
    rintro c pre W W' row ⟨rfl, xs, x, rfl, hI, hn⟩ hg hr
    exact ⟨rfl, xs, x, rfl, entI_own (Nat.le_refl _) xs W W' row hI hg hr, hn⟩
  case h0 =>
    have t1 := (show Turn X0 w6 (Item.all [Item.blk g10 68 #[.slice none 0 0], Item.blk g9 63 #[.slice none 0 0], Item.blk g4 3 #[.int .i64 bs]]) w6 from by rw [HX0.out]; exact T0.out).more (y := Item.rowT 3 1 (.slice none 0 0) 0 []) (Below.refl _ _) (World.ownsRow_nil _ _ _ _) (fun k hk => by cases hk)
    have t2 := t1.more (y := Item.rowT 105 6 (.slice none 0 0) 0 []) (Below.refl _ _) (World.ownsRow_nil _ _ _ _) (fun k hk => by cases hk)
    refine ⟨[], .slice none 0 0, .slice none 0 0, rfl, rfl, t2.permR ?_⟩
    exact ((List.perm_append_comm (l₁ := [Item.rowT 105 6 (.slice none 0 0) 0 [], Item.rowT 3 1 (.slice none 0 0) 0 []]) (l₂ := [Item.blk g10 68 #[.slice none 0 0], Item.blk g9 63 #[.slice none 0 0]])).append_right [Item.blk g4 3 #[.int .i64 bs]]).trans (List.Perm.swap _ _ _)
  case hdone =>
    rintro D xs W hD hxs ⟨ts, v9, v10, htl, hlen, hT⟩ hDD
    obtain ⟨A9, c9, rfl, _, _⟩ := own_slice (hT.get (i := 2) rfl)
    obtain ⟨A10, c10, rfl, _, _⟩ := own_slice (hT.get (i := 3) rfl)
    have HT := Lib.hid hT
    have HE := Lib.hid (show (ts.map Told.x).zip (xs.map Got.at_) = tellF L from by rw [← htl, hxs]; rfl)
    have HLN := Lib.hid (show (xs.map Got.at_).length = ts.length from by rw [List.length_map, hlen])
    have y9 := (show Blk W g9 63 #[.slice A9 ts.length c9] from HT.out.get (i := 0) rfl).cell 0
    have y10 := (show Blk W g10 68 #[.slice A10 ts.length c10] from HT.out.get (i := 1) rfl).cell 0
    simp at y9 y10
    clear hxs hT htl hlen
    go_wp2_with fail
    go_quiet (fail)
    go_wp2
    refine marks_ret rfl hDD (fun w' => by simp [results, Tryz.results33]; rfl) ?_
    exact ⟨ts, A9, A10, c9, c10, rfl, xs.map Got.at_, HE.out, HLN.out, ents_end HT.out T6.out rfl rfl rfl rfl hD hDD⟩
  case hstop =>
    rintro D cc pre W hD hpre ⟨rfl, xs, x, rfl, ⟨ts, v9, v10, htl, hlen, hT⟩, hno⟩ hDD
    obtain ⟨A9, c9, rfl, _, _⟩ := own_slice (hT.get (i := 2) rfl)
    obtain ⟨A10, c10, rfl, _, _⟩ := own_slice (hT.get (i := 3) rfl)
    have HT := Lib.hid hT
    have HE := Lib.hid (show (ts.map Told.x).zip (xs.map Got.at_) = tellF L from by
      obtain ⟨r, hr⟩ := hpre
      unfold tellF
      rw [← htl, ← hr, List.map_append, List.map_cons, List.map_nil, List.append_assoc, List.singleton_append]
      exact (tellL_stop hno r _ (tellL_len htl (by simp [hlen]) (by simp))).symm)
    have HLN := Lib.hid (show (xs.map Got.at_).length = ts.length from by rw [List.length_map, hlen])
    have y9 := (show Blk W g9 63 #[.slice A9 ts.length c9] from HT.out.get (i := 0) rfl).cell 0
    have y10 := (show Blk W g10 68 #[.slice A10 ts.length c10] from HT.out.get (i := 1) rfl).cell 0
    simp at y9 y10
    clear hno hpre hT htl hlen
    refine wpIn_wide.2 ?_
    go_wp2_with fail
    go_quiet (fail)
    go_wp2
    refine marks_ret rfl hDD (fun w' => by simp [results, Tryz.results33]; rfl) ?_
    exact ⟨ts, A9, A10, c9, c10, rfl, xs.map Got.at_, HE.out, HLN.out, ents_end HT.out T6.out rfl rfl rfl rfl hD hDD⟩
  case hbody =>
    rintro l pre x W ⟨ts, v9, v10, htl, hlen, hT⟩ ⟨⟨hr, hp6⟩, hpf⟩
    obtain ⟨hcnt, hat⟩ := allF_bound _ _ _ hpf (Nat.zero_le _)
    have hcnt' : 9 * (pre.length + 1) ≤ L.length := by simpa using hcnt
    have hatl : x.at_ ≤ L.length := hat x.key (by simp)
    have HTL := Lib.hid htl
    have HLN := Lib.hid hlen
    have HT := Lib.hid hT
    have HTW := Lib.hid (Turn.refl hT.p)
    have HD := Lib.hid (decode_any (c := x.c) hr (by omega))
    clear hcnt hat htl hT hr hpf
    obtain ⟨at_, Ax, cx, p⟩ := x
    simp only [gotFrame, List.setIfInBounds_toArray, List.set_cons_zero, List.set_cons_succ] at hatl HD ⊢
    by_cases hdec : ∃ y : En, y.may ∧ y.enc = p
    · obtain ⟨⟨k, s, n, key, v, dd⟩, hym, hye⟩ := hdec
      have HD2 := Lib.hid (show Calls Tryz.prog 91 #[.slice Ax p.length cx] W (fun e w' => ∃ A c, e = .returned (.tuple #[.agg #[.int .i64 k, .int .i64 s, .int .i64 n, .string key, .slice A v.length c, .bool dd], .int .i64 0]) ∧ BOwns w' W.heap.size (.slice A v.length c) v ∧ Below W.heap.size W w') from HD.out.mono (by
        rintro e w' (⟨z, hz1, hz2, h⟩ | ⟨h, _⟩)
        · rw [enc_inj hz1 hym (hz2.trans hye.symm)] at h; exact h
        · exact absurd ⟨_, hym, hye⟩ h))
      have HYM := Lib.hid hym
      have HYE := Lib.hid hye
      clear HD hym hye
      gi_upto_region 12 with (refine ⟨trivial, ?_⟩; gi_at_call 91; refine (CallsIn.inRound l (callsIn_wide.2 HD2.out)).mono ?_; rintro e w1 ⟨A2, c2, rfl, ho, hb⟩; have HO2 := Lib.hid ho; have HB2 := Lib.hid hb; clear ho hb)
      have T1 := HTW.out.more HB2.out (y := Item.row (.slice A2 v.length c2) v) (owns_less HO2.out (Nat.zero_le _)) (fun k hk => (HO2.out.lt hk).1)
      have T2 := T1.more (y := Item.blk w1.heap.size 105 #[.int .i64 k, .int .i64 s, .int .i64 n, .string key, .slice A2 v.length c2, .bool dd]) ((Below.refl _ _).alloc (Nat.le_refl _) _) (Blk.new _ _ _) (fun k hk => by cases hk; exact Nat.le_refl _)
      have T3 := T2.permR ((List.perm_append_comm (l₁ := [Item.blk w1.heap.size 105 #[.int .i64 k, .int .i64 s, .int .i64 n, .string key, .slice A2 v.length c2, .bool dd], Item.row (.slice A2 v.length c2) v]) (l₂ := [Item.blk g9 63 #[v9], Item.blk g10 68 #[v10], Item.rowT 105 6 v9 ts.length (toldCells ts), Item.rowT 3 1 v10 ts.length (endsV bs (pre.map Got.at_))])).append_right (Item.blk g4 3 #[.int .i64 bs] :: toldRows ts))
      clear T1 T2 HTW HB2 HO2 HD2
      refine ents_region (g4 := g4) (g13 := w1.heap.size) (base := bs) (at_ := at_) (n := ts.length) (k := k) (s := s) (m := n) (key := key) (A := A2) (p := v) (c := c2) (d := dd) rfl rfl rfl rfl rfl rfl (by simp) (by simp) (by omega) (by omega) T3 ?_
      intro a w' A9 A10 c9 c10 hfr hT4
      exact ent_round (x := ⟨at_, Ax, cx, p⟩) (t := ⟨⟨k, s, n, key, v, dd⟩, A2, c2⟩) HTL.out HLN.out HT.out HYM.out HYE.out HLT.out hT4
    · have HD2 := Lib.hid (show Calls Tryz.prog 91 #[.slice Ax p.length cx] W (fun e w' => e = .returned (.tuple #[.agg #[.int .i64 0, .int .i64 0, .int .i64 0, .string ⟨#[]⟩, .slice none 0 0, .bool false], .int .i64 100]) ∧ Below W.heap.size W w') from HD.out.mono (by
        rintro e w' (⟨z, hz1, hz2, h⟩ | ⟨_, h⟩)
        · exact absurd ⟨z, hz1, hz2⟩ hdec
        · exact h))
      have HDE := Lib.hid hdec
      clear HD hdec
      gi_wp2_with (refine ⟨trivial, ?_⟩; gi_at_call 91; refine (CallsIn.inRound l (callsIn_wide.2 HD2.out)).mono ?_; rintro e w1 ⟨rfl, hb⟩; have HB2 := Lib.hid hb; clear hb)
      have hb := HB2.out.trans (((Below.refl _ _).alloc (Nat.le_refl _) (.cells #[.int .i64 0, .int .i64 0, .int .i64 0, .string ⟨#[]⟩, .slice none 0 0, .bool false] 105)).mono HB2.out.size)
      exact ⟨(HTW.out.go hb).keepsFrom HT.out.p (solid_ents _ _ _ _ _ _ _ _), rfl, pre, _, rfl, ⟨ts, v9, v10, HTL.out, HLN.out, HT.out.go hb⟩, HDE.out⟩
end Go.Proofs.YtmnpchncmbnddaaGreat
/- The law's fit and Alike, by contract. -/
namespace Go.Proofs.YtmnpchncmbnddaaGreat
open Go.RowKit

theorem Tryz.info105 : (Tryz.prog.info? 105).map (fun i => (i.zero, i.size, i.bytes)) = some (some (.agg #[.int .i64 0, .int .i64 0, .int .i64 0, .string ⟨#[]⟩, .slice none 0 0, .bool false]), 6, 72) := by kernel_rfl
end Go.Proofs.YtmnpchncmbnddaaGreat
/- slices.Equal of ints, by its contract. -/
namespace Go.Proofs.YtmnpchncmbnddaaGreat
open Go.RowKit

/-- Ints as cells. -/
def ivs (l : List Int) : List Value := l.map fun b => Value.int .i64 b
theorem ivs_get (l : List Int) (k : Nat) : (ivs l)[k]? = (l[k]?).map fun b => Value.int .i64 b := by simp [ivs]
/-- The slice at A reads as the ints l, in blocks below B. -/
def IReads (w : World) (B : Nat) (A : Option Addr) (l : List Int) : Prop := Reads w B 1 A l.length (ivs l)
theorem IReads.at_ {w : World} {B : Nat} {A : Option Addr} {l : List Int} (h : IReads w B A l) {k : Nat} (hk : k < l.length) :
    ∃ b off, A = some ⟨b, off, none⟩ ∧ b < B ∧ w.cell? ⟨b, off + k, none⟩ = some (.int .i64 l[k]) := by
  obtain ⟨b, off, e, hb, hc⟩ := h.2 (by omega)
  exact ⟨b, off, e, hb, hc k _ (by rw [ivs_get, List.getElem?_eq_getElem hk]; rfl)⟩
end Go.Proofs.YtmnpchncmbnddaaGreat
/- For the laws about logs: pieces of memory that a law holds, lists of entries in them, a log alone on its disk. -/
namespace Go.Proofs.YtmnpchncmbnddaaGreat
open Go.RowKit

section
variable {w w' : World} {a x y : Item} {L : List Item}
theorem Turn.one (h : Turn a w x w') : Turn a w (Item.all [x]) w' :=
  ⟨⟨fun i hi => by simp only [List.mem_cons, List.not_mem_nil, or_false] at hi; subst hi; exact h.p, List.pairwise_singleton _ _⟩, h.k, fun k ⟨i, hi, hk⟩ => by simp only [List.mem_cons, List.not_mem_nil, or_false] at hi; subst hi; exact h.o k hk⟩
theorem Turn.none_ : Turn (Item.all []) w (Item.all []) w := Turn.refl ⟨fun _ h => (by cases h), List.Pairwise.nil⟩
theorem Turn.add (h : Turn a w (Item.all (x :: L)) w') {w'' : World} (hb : Below w'.heap.size w' w'') (hy : y.P w'') (ho : ∀ k, y.own k → w'.heap.size ≤ k) : Turn a w (Item.all (x :: y :: L)) w'' := (h.more hb hy ho).permR (List.Perm.swap _ _ _)
theorem row_new {e : TypeId} {cs : Array Value} {size n : Nat} (hs : cs.size = n * size) (hn : n ≤ 281474976710656) : (w.alloc (.cells cs e)).ownsRow 0 e size (.slice (some ⟨w.heap.size, 0, none⟩) n n) n cs.toList :=
  ⟨by rw [Array.length_toList, hs], .inr ⟨w.heap.size, n, cs, rfl, Nat.zero_le _, World.alloc_heap_new w _, Nat.le_refl _, by unfold maxLen; omega, hs, by rw [← hs, ← Array.length_toList, List.take_length]⟩⟩
theorem own_new {g n c k : Nat} (h : (Value.slice (some ⟨g, 0, none⟩) n c).ownBlock = some k) : g ≤ k := by injection h with h; exact Nat.le_of_eq h
/-- A literal slice, laid behind the first piece. -/
theorem Turn.lit (h : Turn a w (Item.all (x :: L)) w') {e : TypeId} {cs : Array Value} {xs : List Value} {size n : Nat} (hs : cs.size = n * size) (hx : cs.toList = xs) (hn : n ≤ 281474976710656) : Turn a w (Item.all (x :: Item.rowT e size (.slice (some ⟨w'.heap.size, 0, none⟩) n n) n xs :: L)) (w'.alloc (.cells cs e)) :=
  h.add ((Below.refl _ _).alloc (Nat.le_refl _) _) (by rw [← hx]; exact row_new hs hn) (fun k hk => own_new hk)
/-- Entries in a row of one's own, and their values. -/
theorem sl_of_row {B : Nat} {A : Option Addr} {c n : Nat} {ts : List Told} (h : (Item.rowT 105 6 (.slice A n c) n (toldCells ts)).P w) (hn : n = ts.length) (hB : ∀ k, (Value.slice A n c).ownBlock = some k → k < B) (hv : ∀ t ∈ ts, t.x.ints ∧ BReads w B t.A t.x.value ∧ t.x.value.length ≤ t.c) : kEn.Sl w B A (ts.map Told.x) := by
  intro hl
  rw [List.length_map] at hl
  have h' : w.ownsRow 0 105 6 (.slice A n c) n (toldCells ts) := h
  rcases h'.2 with ⟨h2, h3⟩ | ⟨g, cap, cur, hv1, _, hh, h4, h5, h6, h7⟩
  · omega
  injection hv1 with hv1
  subst hv1
  refine ⟨g, 0, rfl, hB g rfl, fun j x hx => ?_⟩
  rw [List.getElem?_map] at hx
  obtain ⟨t, ht, rfl⟩ := Option.map_eq_some_iff.1 hx
  have hm := List.mem_of_getElem? ht
  obtain ⟨⟨⟨k1, k2⟩, ⟨s1, s2⟩, ⟨c1, c2⟩⟩, hr, hcap⟩ := hv t hm
  refine ⟨(t.x.cells t.A t.c).toList, ?_, fun i u hu => ?_⟩
  · have wf : ∀ z : Int, -9223372036854775808 ≤ z → z ≤ 9223372036854775807 → (Lit.int .i64 z).wf = true := fun z h1 h2 => by simp [Lit.wf, IntKind.min, IntKind.max, IntKind.signed, IntKind.bits]; omega
    exact ⟨[_], _, rfl, ⟨rfl, wf _ k1 k2⟩, [_], _, rfl, ⟨rfl, wf _ s1 s2⟩, [_], _, rfl, ⟨rfl, wf _ c1 c2⟩, [_], _, rfl, rfl, [_], [_], rfl, ⟨t.A, t.c, rfl, hcap, hr⟩, rfl⟩
  · have hj : j < ts.length := (List.getElem?_eq_some_iff.1 ht).1
    have hi : i < 6 := (List.getElem?_eq_some_iff.1 hu).1
    have e1 : (toldCells ts)[j * 6 + i]? = some u := by
      unfold toldCells
      rw [List.flatMap_def]
      have := flat_get (L := ts.map fun t => (t.x.cells t.A t.c).toList) (n := 6) (i := j) (j := i) (x := (t.x.cells t.A t.c).toList) (fun x hx => by obtain ⟨t', _, rfl⟩ := List.mem_map.1 hx; rfl) (by rw [List.getElem?_map, ht]; rfl) hi
      rw [this]; exact hu
    have hlt : j * 6 + i < n * 6 := by omega
    rw [← h7, List.getElem?_take_of_lt hlt] at e1
    show w.cell? ⟨g, 0 + j * 6 + i, none⟩ = some u
    rw [Nat.zero_add]
    unfold World.cell?
    simp only [hh]
    simpa using e1
end
/-- A log alone on its disk. -/
def lg (gl g gp : Nat) (ar : Bool) (p : Pt) : Item := lgItem gl ⟨g, gp, ar, [p]⟩ 0
section
variable {w0 w : World} {x : Item} {rest : List Item} {A : Option Addr} {c n : Nat} {es : List En} {ts : List Told}
end
section
variable {w : World} {gl g gp : Nat} {p : Pt} {A : Option Addr} {c : Nat} {es : List En}
end
theorem Turn.join {a : Item} {w w' w'' : World} {L M : List Item} (h : Turn a w (Item.all L) w') (t : Turn (Item.all []) w' (Item.all M) w'') : Turn a w (Item.all (L ++ M)) w'' := by
  have hb := t.free
  have hM : ∀ k, (Item.all M).own k → w'.heap.size ≤ k := fun k hk => by
    rcases t.o k hk with ⟨i, hi, _⟩ | h
    · cases hi
    · exact h
  refine ⟨⟨fun i hi => ?_, List.pairwise_append.2 ⟨h.p.2, t.p.2, fun i hi j hj k h1 h2 => ?_⟩⟩, h.k.trans (Keeps.of_below hb (fun _ => False)) (fun _ h => h.elim), fun k ⟨i, hi, hk⟩ => ?_⟩
  · rcases List.mem_append.1 hi with hi | hi
    · exact Item.go (h.p.1 i hi) hb
    · exact t.p.1 i hi
  · have := i.lt (h.p.1 i hi) h1
    have := hM k ⟨j, hj, h2⟩
    omega
  · rcases List.mem_append.1 hi with hi | hi
    · exact h.o k ⟨i, hi, hk⟩
    · exact .inr (Nat.le_trans h.k.size (hM k ⟨i, hi, hk⟩))
theorem may_ints {x : En} (h : x.may) : x.ints := by
  have := En.may_bounds h
  unfold En.ints; omega
/-- Entries that were told, as a list. -/
theorem sl_told {w : World} {A : Option Addr} {c n : Nat} {ts : List Told} (h : (Item.rowT 105 6 (.slice A n c) n (toldCells ts)).P w) (hn : n = ts.length) (hr : ∀ i ∈ toldRows ts, i.P w) (hm : ∀ e ∈ ts.map Told.x, e.may) : kEn.Sl w w.heap.size A (ts.map Told.x) :=
  sl_of_row h hn (fun k hk => Item.lt _ h hk) (fun t ht => by
    have ho : BOwns w 0 (.slice t.A t.x.value.length t.c) t.x.value := hr _ (List.mem_map.2 ⟨t, ht, rfl⟩)
    obtain ⟨A1, c1, e, hc, hv⟩ := BOwns.slice ho
    injection e with e1 _ e2
    subst e1; subst e2
    exact ⟨may_ints (hm _ (List.mem_map.2 ⟨t, ht, rfl⟩)), hv, hc⟩)
theorem endsV_ivs (base : Int) (es : List En) : endsV base (offsF 0 es) = ivs (endsI base es) := by simp [endsV, ivs, endsI]
/-- Entries, of a log with these entries, and what no frame begins with behind them. -/
def EntsPost (base : Int) (es : List En) (w : World) (e : Ending) (w' : World) : Prop :=
  ∃ (ts : List Told) (A9 A10 : Option Addr) (c9 c10 : Nat), ts.map Told.x = es ∧ e = .returned (.tuple #[.slice A9 es.length c9, .slice A10 es.length c10]) ∧
    Turn (Item.all []) w (Item.all (Item.rowT 105 6 (.slice A9 es.length c9) es.length (toldCells ts) :: Item.rowT 3 1 (.slice A10 es.length c10) es.length (ivs (endsI base es)) :: toldRows ts)) w'
theorem entries_tell {w : World} {gl g gp : Nat} {ar : Bool} {p : Pt} {es : List En} (h : (lg gl g gp ar p).P w) (hb0 : 0 ≤ p.a.base) (hb1 : p.a.base ≤ 4611686018427387904) (hl : p.a.l.length ≤ 8796093022208) (hs : p.a.safe ≤ p.a.l.length) (hT : tellF p.a.l = endsF 0 es) :
    Calls Tryz.prog 33 #[.pointer (some ⟨gl, 0, none⟩)] w (EntsPost p.a.base es w) := by
  refine (lEntries_any (d := ⟨g, gp, ar, [p]⟩) 0 (p := p) h (by simp) rfl hb0 hb1 hl hs).mono ?_
  rintro e w' ⟨ts, A9, A10, c9, c10, rfl, ns, hzp, hln, t⟩
  rw [hT] at hzp
  obtain ⟨h1, h2⟩ := told_of hzp (by rw [List.length_map, hln])
  have hlen : ts.length = es.length := by rw [← h1, List.length_map]
  rw [h2, endsV_ivs, hlen] at t
  exact ⟨ts, A9, A10, c9, c10, h1, by rw [hlen], t⟩
theorem rowI_reads {w : World} {A : Option Addr} {c n : Nat} {l : List Int} (h : (Item.rowT 3 1 (.slice A n c) n (ivs l)).P w) (hn : n = l.length) : IReads w w.heap.size A l ∧ n ≤ c := by
  obtain ⟨A1, c1, e, hc, hr⟩ := own_slice (show w.ownsRow 0 _ 1 _ n _ from h)
  injection e with e1 _ e2
  subst e1; subst e2; subst hn
  exact ⟨hr, hc⟩
theorem IReads.below {w w' : World} {B : Nat} {A : Option Addr} {l : List Int} (h : IReads w B A l) (hb : Below B w w') : IReads w' B A l := Reads.below h hb
theorem IReads.more {w : World} {B B' : Nat} {A : Option Addr} {l : List Int} (h : IReads w B A l) (hb : B ≤ B') : IReads w B' A l := Reads.more h hb
theorem Turn.fresh {w w' : World} {x : Item} {L : List Item} {i : Nat} (h : Turn (Item.all []) w (Item.all L) w') (hi : L[i]? = some x) : ∀ k, x.own k → w.heap.size ≤ k := fun k hk => by
  rcases h.o k ⟨x, List.mem_of_getElem? hi, hk⟩ with ⟨j, hj, _⟩ | h
  · cases hj
  · exact h
section
variable {w : World} {gl g gp : Nat} {p : Pt} {k : Nat}
end
theorem sl_drop {α : Type} {K : Kd α} {w : World} {B k : Nat} {A : Option Addr} {l : List α} (h : K.Sl w B A l) : K.Sl w B (A.map (·.add (k * K.size))) (l.drop k) := by
  intro hl
  rw [List.length_drop] at hl
  obtain ⟨b, off, hA, hb, hr⟩ := h (by omega)
  refine ⟨b, off + k * K.size, by rw [hA]; simp [Addr.add], hb, fun j x hx => ?_⟩
  rw [List.getElem?_drop] at hx
  obtain ⟨cs, h1, h2⟩ := hr (k + j) x hx
  refine ⟨cs, h1, fun t u hu => ?_⟩
  have := h2 t u hu
  rwa [Nat.add_mul, ← Nat.add_assoc] at this
theorem sl_take {α : Type} {K : Kd α} {w : World} {B k : Nat} {A : Option Addr} {l : List α} (h : K.Sl w B A l) : K.Sl w B A (l.take k) := by
  intro hl
  rw [List.length_take] at hl
  obtain ⟨b, off, hA, hb, hr⟩ := h (by omega)
  refine ⟨b, off, hA, hb, fun j x hx => hr j x ?_⟩
  have hj : j < (l.take k).length := (List.getElem?_eq_some_iff.1 hx).1
  rw [List.length_take] at hj
  rwa [List.getElem?_take_of_lt (by omega)] at hx
theorem sl_nil {α : Type} {K : Kd α} {w : World} {B : Nat} {A : Option Addr} : K.Sl w B A [] := fun h => absurd h (Nat.lt_irrefl 0)
end Go.Proofs.YtmnpchncmbnddaaGreat
/- Rows of any elements: a cell read, a cell written; a row whose cells nobody asks for. -/
namespace Go.Proofs.YtmnpchncmbnddaaGreat
open Go.RowKit

theorem rowT_at {w : World} {e : TypeId} {size n c : Nat} {A : Option Addr} {xs : List Value} (h : (Item.rowT e size (.slice A n c) n xs).P w) (hp : 0 < n) :
    ∃ g, A = some ⟨g, 0, none⟩ ∧ g < w.heap.size ∧ n ≤ c ∧ xs.length = n * size ∧ (∀ k, w.frozen? ⟨g, k, none⟩ = false) ∧ ∀ k, k < n * size → w.cell? ⟨g, k, none⟩ = xs[k]? := by
  have h' : w.ownsRow 0 e size (.slice A n c) n xs := h
  rcases h'.2 with ⟨_, h3⟩ | ⟨g, cap, cur, hv, _, hh, h4, h5, h6, h7⟩
  · omega
  injection hv with e1 _ e2
  subst e1; subst e2
  refine ⟨g, rfl, (Array.getElem?_eq_some_iff.1 hh).1, h4, h'.1, fun k => ?_, fun k hk => ?_⟩
  · have hb : Blk w g e cur := hh
    exact hb.frozen k
  · have hb : Blk w g e cur := hh
    rw [hb.cell k, ← h7, List.getElem?_take_of_lt hk, Array.getElem?_toList]
end Go.Proofs.YtmnpchncmbnddaaGreat
/- Chains and stores: lists of pairs by key; how chains and stores lie in memory. -/
namespace Go.Proofs.YtmnpchncmbnddaaGreat
open Go.RowKit
open Go.Maps (Keyed string_keyed)

/-! Pairs by key, rising. -/
section
variable {β γ : Type}
abbrev Key := List UInt8
def insA (x : Key × β) : List (Key × β) → List (Key × β)
  | [] => [x]
  | y :: r => if bytesBefore x.1 y.1 then x :: y :: r else y :: insA x r
def othersA (k : Key) (l : List (Key × β)) : List (Key × β) := l.filter fun p => !(p.1 == k)
def getA (k : Key) (l : List (Key × β)) : Option β := (l.find? fun p => p.1 == k).map (·.2)
def putA (k : Key) (b : β) (l : List (Key × β)) : List (Key × β) := insA (k, b) (othersA k l)
def mapA (f : β → γ) (l : List (Key × β)) : List (Key × γ) := l.map fun p => (p.1, f p.2)
theorem insA_perm (x : Key × β) : ∀ l, (insA x l).Perm (x :: l)
  | [] => List.Perm.refl _
  | y :: r => by
    unfold insA
    split
    · exact List.Perm.refl _
    · exact ((insA_perm x r).cons y).trans (List.Perm.swap x y r)
theorem insA_map (f : β → γ) (x : Key × β) : ∀ l, mapA f (insA x l) = insA (x.1, f x.2) (mapA f l)
  | [] => rfl
  | y :: r => by
    unfold insA
    split
    · rename_i h
      show _ = insA _ ((y.1, f y.2) :: mapA f r)
      rw [insA, if_pos h]; rfl
    · rename_i h
      show _ = insA _ ((y.1, f y.2) :: mapA f r)
      rw [insA, if_neg h]
      show (y.1, f y.2) :: mapA f (insA x r) = _
      rw [insA_map f x r]
theorem othersA_map (f : β → γ) (k : Key) (l : List (Key × β)) : mapA f (othersA k l) = othersA k (mapA f l) := by
  unfold mapA othersA
  rw [List.filter_map]; rfl
theorem getA_map (f : β → γ) (k : Key) (l : List (Key × β)) : getA k (mapA f l) = (getA k l).map f := by
  unfold getA mapA
  rw [List.find?_map, Option.map_map, Option.map_map]; rfl
theorem putA_map (f : β → γ) (k : Key) (b : β) (l : List (Key × β)) : mapA f (putA k b l) = putA k (f b) (mapA f l) := by
  unfold putA
  rw [insA_map, othersA_map]
theorem putA_perm (k : Key) (b : β) (l : List (Key × β)) : (putA k b l).Perm ((k, b) :: othersA k l) := insA_perm _ _
theorem getA_mem {k : Key} {b : β} {l : List (Key × β)} (h : getA k l = some b) : (k, b) ∈ l := by
  unfold getA at h
  obtain ⟨p, hp, rfl⟩ := Option.map_eq_some_iff.1 h
  have h1 := List.mem_of_find?_eq_some hp
  have h2 := List.find?_some hp
  simp only [beq_iff_eq] at h2
  subst h2
  exact h1
theorem getA_none {k : Key} {l : List (Key × β)} (h : getA k l = none) : othersA k l = l := by
  unfold getA at h
  rw [Option.map_eq_none_iff, List.find?_eq_none] at h
  unfold othersA
  rw [List.filter_eq_self]
  intro p hp
  have := h p hp
  simpa using this
def Apart (l : List (Key × β)) : Prop := l.Pairwise fun p q => p.1 ≠ q.1
theorem getA_perm {k : Key} {b : β} : ∀ {l : List (Key × β)}, Apart l → getA k l = some b → l.Perm ((k, b) :: othersA k l)
  | [], _, h => by cases h
  | y :: r, ha, h => by
    obtain ⟨h1, h2⟩ := List.pairwise_cons.1 ha
    by_cases e : y.1 = k
    · have hr : othersA k r = r := by
        unfold othersA
        rw [List.filter_eq_self]
        intro p hp
        have := h1 p hp
        simp only [Bool.not_eq_true', beq_eq_false_iff_ne, ne_eq]
        intro e2
        exact this (e.trans e2.symm)
      have e2 : y = (k, b) := by
        unfold getA at h
        rw [List.find?_cons_of_pos (by simpa using e)] at h
        simp only [Option.map_some, Option.some.injEq] at h
        rw [← e, ← h]
      have e3 : othersA k (y :: r) = r := by
        rw [← hr]
        unfold othersA
        rw [List.filter_cons_of_neg (by simpa using e), List.filter_filter]
        simp
      rw [e3, e2]
    · have e3 : othersA k (y :: r) = y :: othersA k r := by
        unfold othersA
        rw [List.filter_cons_of_pos (by simpa using e)]
      have h' : getA k r = some b := by
        unfold getA at h ⊢
        rwa [List.find?_cons_of_neg (by simpa using e)] at h
      rw [e3]
      exact ((getA_perm h2 h').cons y).trans (List.Perm.swap _ _ _)
theorem Apart.perm {l m : List (Key × β)} (h : Apart l) (hp : l.Perm m) : Apart m := hp.pairwise h fun {a b} (h : a.1 ≠ b.1) => h.symm
theorem apart_put {k : Key} {b : β} {l : List (Key × β)} (h : Apart l) : Apart (putA k b l) :=
  Apart.perm (List.pairwise_cons.2 ⟨fun p hp => by
    have := (List.mem_filter.1 hp).2
    simp only [Bool.not_eq_true', beq_eq_false_iff_ne, ne_eq] at this
    exact fun e => this e.symm, h.filter _⟩) (putA_perm k b l).symm
theorem getA_put {k : Key} {b : β} {l : List (Key × β)} : getA k (putA k b l) = some b := by
  have hm : (k, b) ∈ putA k b l := (putA_perm k b l).mem_iff.2 (List.mem_cons_self ..)
  unfold getA
  cases hf : (putA k b l).find? (fun p => p.1 == k) with
  | none => rw [List.find?_eq_none] at hf; exact absurd (hf _ hm) (by simp)
  | some p =>
    have h1 := List.mem_of_find?_eq_some hf
    have h2 := List.find?_some hf
    simp only [beq_iff_eq] at h2
    rcases List.mem_cons.1 ((putA_perm k b l).mem_iff.1 h1) with rfl | h3
    · rfl
    · have := (List.mem_filter.1 h3).2
      simp [h2] at this
end

/-! What lies in memory. -/
/-- What there was from a stamp on. -/
structure Lv where
  st : Int
  v : List UInt8
  dead : Bool
/-- A link, and where its value lies. -/
structure Lk where
  x : Lv
  A : Option Addr
  c : Nat
def Lk.cells (l : Lk) : List Value := [.int .i64 l.x.st, .slice l.A l.x.v.length l.c, .bool l.x.dead]
def Lk.item (l : Lk) : Item := Item.row (.slice l.A l.x.v.length l.c) l.x.v
def lkCells (ls : List Lk) : List Value := ls.flatMap Lk.cells
/-- A chain. -/
structure Ch where
  g : Nat
  A : Option Addr
  c : Nat
  ls : List Lk
def Ch.row (h : Ch) : Value := .slice h.A h.ls.length h.c
def Ch.pieces (h : Ch) : List Item := Item.blk h.g 215 #[h.row] :: Item.rowT 135 3 h.row h.ls.length (lkCells h.ls) :: h.ls.map Lk.item
def Ch.item (h : Ch) : Item := Item.all h.pieces
def Ch.vs (h : Ch) : List Lv := h.ls.map Lk.x
def ptrG : Option Nat → Value
  | some g => .pointer (some ⟨g, 0, none⟩)
  | none => .pointer none
/-- How a chain in a map reads: as the number of its block. -/
def chR : Value → Option (DataW Unit × List MemPlace)
  | .pointer none => some (.nil, [])
  | .pointer (some ⟨g, 0, none⟩) => some (.lit (.int .i64 g), [])
  | _ => none
theorem chR_some {v : Value} {g : Int} {ps : List MemPlace} (h : chR v = some (.lit (.int .i64 g), ps)) : ∃ n : Nat, (n : Int) = g ∧ v = .pointer (some ⟨n, 0, none⟩) := by
  unfold chR at h
  split at h
  · cases h
  · rename_i n
    simp only [Option.some.injEq, Prod.mk.injEq, DataW.lit.injEq, Lit.int.injEq, true_and] at h
    exact ⟨n, h.1, rfl⟩
  · cases h
theorem chR_nil {v : Value} {ps : List MemPlace} (h : chR v = some (.nil, ps)) : v = .pointer none := by
  unfold chR at h
  split at h
  · rfl
  · cases h
  · cases h
def dS (cs : List (Key × Nat)) : DataW Unit := .map (cs.map fun p => (Lit.string p.1, .lit (.int .i64 p.2)))
theorem dS_at (cs : List (Key × Nat)) (k : Key) : (dS cs).atKey (.string k) .nil = match getA k cs with | some g => .lit (.int .i64 g) | none => .nil := by
  unfold dS DataW.atKey
  simp only
  rw [List.find?_map]
  have h2 : ((fun p : Lit × DataW Unit => p.1.sameKey (.string k)) ∘ fun p : Key × Nat => (Lit.string p.1, (DataW.lit (.int .i64 p.2) : DataW Unit))) = fun p => p.1 == k := by
    funext p; rfl
  rw [h2]
  unfold getA
  cases cs.find? (fun p => p.1 == k) <;> rfl
theorem dS_ins (k : Key) (g : Nat) : ∀ cs : List (Key × Nat), DataW.insert (Lit.string k, (.lit (.int .i64 g) : DataW Unit)) (cs.map fun p => (Lit.string p.1, .lit (.int .i64 p.2))) = (insA (k, g) cs).map fun p => (Lit.string p.1, .lit (.int .i64 p.2))
  | [] => rfl
  | y :: r => by
    rw [List.map_cons, DataW.insert, insA]
    show (if bytesBefore k y.1 = true then _ else _) = _
    split
    · rw [List.map_cons, List.map_cons]
    · rw [List.map_cons, dS_ins k g r]
theorem dS_put (cs : List (Key × Nat)) (k : Key) (g : Nat) : (dS cs).put (.string k) (.lit (.int .i64 g)) = dS (putA k g cs) := by
  have h1 : (dS cs).put (.string k) (.lit (.int .i64 g)) = .map (DataW.insert (Lit.string k, .lit (.int .i64 g)) ((cs.map fun p => (Lit.string p.1, (DataW.lit (.int .i64 p.2) : DataW Unit))).filter fun p => !p.1.sameKey (.string k))) := rfl
  rw [h1, List.filter_map]
  have h2 : ((fun p : Lit × DataW Unit => !p.1.sameKey (.string k)) ∘ fun p : Key × Nat => (Lit.string p.1, (DataW.lit (.int .i64 p.2) : DataW Unit))) = fun p => !(p.1 == k) := by
    funext p; rfl
  rw [h2, dS_ins]; rfl
/-- A map from keys to blocks. -/
def Item.map (gm : Nat) (cs : List (Key × Nat)) : Item where
  own := fun k => k = gm
  P := fun w => w.ownsMap Tryz.prog 9 chR gm cs.length (dS cs)
  keep := fun h hk => by
    obtain ⟨es, clock, hb, F, hs, hD⟩ := h
    exact ⟨es, clock, (hk gm rfl).trans hb, F, hs, hD⟩
  lt := fun h e => by subst e; exact h.lt
theorem map_tight {w : World} {gm n : Nat} {cs : List (Key × Nat)} (h : w.ownsMap Tryz.prog 9 chR gm n (dS cs)) : (Item.map gm cs).P w := by
  obtain ⟨es, clock, hb, F, hs, hD⟩ := h
  refine ⟨es, clock, hb, F, ?_, hD⟩
  have h1 : (cs.map fun p => (Lit.string p.1, (DataW.lit (.int .i64 p.2) : DataW Unit))) = (es.toList.map (Go.WideElems.rg Tryz.prog 9 chR)).foldr DataW.insert [] := by
    unfold dS at hD
    injection hD
  have h2 := congrArg List.length h1
  simp only [List.length_map, length_sorted, Array.length_toList] at h2
  exact Nat.le_of_eq h2.symm
/-- A store. -/
structure St where
  gs : Nat
  gm : Nat
  live : Int
  cs : List (Key × Ch)
def St.pieces (s : St) : List Item := Item.blk s.gs 166 #[.map (some s.gm), .int .i64 s.live] :: Item.map s.gm (mapA Ch.g s.cs) :: s.cs.map (fun p => p.2.item)
def St.item (s : St) : Item := Item.all s.pieces
def St.view (s : St) : List (Key × List Lv) := mapA Ch.vs s.cs
section
variable {w w' : World} {s : St}
theorem St.blk (h : s.item.P w) : Blk w s.gs 166 #[.map (some s.gm), .int .i64 s.live] := Item.all_get h (List.mem_cons_self ..)
theorem St.map (h : s.item.P w) : (Item.map s.gm (mapA Ch.g s.cs)).P w := Item.all_get h (List.mem_cons_of_mem _ (List.mem_cons_self ..))
theorem St.ch (h : s.item.P w) {k : Key} {c : Ch} (hc : (k, c) ∈ s.cs) : c.item.P w := Item.all_get h (List.mem_cons_of_mem _ (List.mem_cons_of_mem _ (List.mem_map.2 ⟨(k, c), hc, rfl⟩)))
theorem St.get (h : s.item.P w) {k : Key} {c : Ch} (hc : getA k s.cs = some c) : c.item.P w := St.ch h (getA_mem hc)
set_option maxRecDepth 100000 in
/-- What the program's look-up answers. -/
theorem St.look (h : s.item.P w) {key : ByteArray} (hk : key.size ≤ maxLen) :
    (Instr.lookup 164 (.map (some s.gm)) (.string key) false).run Tryz.prog w = .ok (ptrG ((getA key.data.toList s.cs).map Ch.g)) w := by
  obtain ⟨v, ps, hr, hv⟩ := (St.map h).lookup (string_keyed Tryz.underlying9) Tryz.underlying164 (z := .pointer none) rfl (zd := .nil) (zp := []) rfl (key := .string key) (kl := .string key.data.toList) (WideMaps.keyOf_string_mk Tryz.underlying9 hk)
  rw [dS_at, getA_map] at hv
  rw [hr]
  congr 1
  cases hg : getA key.data.toList s.cs with
  | none =>
    rw [hg] at hv
    exact chR_nil hv
  | some c =>
    rw [hg] at hv
    obtain ⟨n, hn, rfl⟩ := chR_some hv
    have : n = c.g := by omega
    subst this; rfl
end
end Go.Proofs.YtmnpchncmbnddaaGreat
/- Chains and stores: of, Len, Last, Newest, weight, own, may, by contract. -/
namespace Go.Proofs.YtmnpchncmbnddaaGreat
open Go.RowKit

/-- A store that may not be there. -/
def ptrS : Option St → Value
  | some s => .pointer (some ⟨s.gs, 0, none⟩)
  | none => .pointer none
def ptrC : Option Ch → Value
  | some h => .pointer (some ⟨h.g, 0, none⟩)
  | none => .pointer none
theorem ptrG_map (o : Option Ch) : ptrG (o.map Ch.g) = ptrC o := by cases o <;> rfl
set_option maxRecDepth 100000 in
theorem sof_any {w : World} {s : St} (h : s.item.P w) {key : ByteArray} (hk : key.size ≤ maxLen) :
    Calls Tryz.prog 68 #[.pointer (some ⟨s.gs, 0, none⟩), .string key] w fun e w' => e = .returned (ptrC (getA key.data.toList s.cs)) ∧ w = w' := by
  have q0 := (St.blk h).cell 0
  simp at q0
  have hl := St.look h hk
  rw [ptrG_map] at hl
  obtain ⟨v, hv⟩ : ∃ v, v = ptrC (getA key.data.toList s.cs) := ⟨_, rfl⟩
  rw [← hv] at hl ⊢
  clear h hv
  go_enter Tryz.func68, Tryz.ntmps68
  go_wp2
  go_ret
  exact ⟨rfl, rfl⟩
set_option maxRecDepth 100000 in
theorem sof_nil {w : World} {key : ByteArray} :
    Calls Tryz.prog 68 #[.pointer none, .string key] w fun e w' => e = .returned (.pointer none) ∧ w = w' := by
  go_enter Tryz.func68, Tryz.ntmps68
  go_wp2
  go_ret
  exact ⟨rfl, rfl⟩
def Ch.ofO : Option Ch → List Lk
  | some h => h.ls
  | none => []
def Ch.okO (w : World) : Option Ch → Prop
  | some h => h.item.P w
  | none => True
section
variable {w : World} {h : Ch}
theorem Ch.blk (hp : h.item.P w) : Blk w h.g 215 #[h.row] := Item.all_get hp (List.mem_cons_self ..)
theorem Ch.rowP (hp : h.item.P w) : (Item.rowT 135 3 h.row h.ls.length (lkCells h.ls)).P w := Item.all_get hp (List.mem_cons_of_mem _ (List.mem_cons_self ..))
theorem Ch.lk (hp : h.item.P w) {l : Lk} (hl : l ∈ h.ls) : l.item.P w := Item.all_get hp (List.mem_cons_of_mem _ (List.mem_cons_of_mem _ (List.mem_map.2 ⟨l, hl, rfl⟩)))
end
set_option maxRecDepth 100000 in
theorem clen_any {w : World} {o : Option Ch} (h : Ch.okO w o) :
    Calls Tryz.prog 133 #[ptrC o] w fun e w' => e = .returned (.int .i64 (Ch.ofO o).length) ∧ w = w' := by
  cases o with
  | none =>
    show Calls _ _ #[.pointer none] _ fun e w' => e = .returned (.int .i64 0) ∧ w = w'
    go_enter Tryz.func133, Tryz.ntmps133
    go_wp2
    go_ret
    exact ⟨rfl, rfl⟩
  | some c =>
    have q0 := (Ch.blk h).cell 0
    simp [Ch.row] at q0
    have e : (Ch.ofO (some c)).length = c.ls.length := rfl
    rw [e]
    obtain ⟨n, hn⟩ : ∃ n, n = c.ls.length := ⟨_, rfl⟩
    rw [← hn] at q0 ⊢
    clear h hn e
    show Calls _ _ #[.pointer (some ⟨c.g, 0, none⟩)] _ _
    go_enter Tryz.func133, Tryz.ntmps133
    go_wp2
    go_ret
    exact ⟨rfl, rfl⟩
def set3 (w : World) (g : Nat) (u0 u1 u2 : Value) : World := (((w.setCell ⟨g, 0, none⟩ u0).setCell ⟨g, 1, none⟩ u1).setCell ⟨g, 2, none⟩ u2)
theorem Blk.put3 {w : World} {g : Nat} {t : TypeId} {a0 a1 a2 : Value} (h : Blk w g t #[a0, a1, a2]) (u0 u1 u2 : Value) : Blk (set3 w g u0 u1 u2) g t #[u0, u1, u2] := by
  have := (((h.set_ 0 u0).set_ 1 u1).set_ 2 u2)
  unfold set3
  simpa using this
theorem keeps_set3 (w : World) (g : Nat) (u0 u1 u2 : Value) : Keeps (fun k => k = g) w (set3 w g u0 u1 u2) :=
  (((Keeps.refl (fun k => k = g) w).setCell (p := ⟨g, 0, none⟩) (.inl rfl) u0).setCell (p := ⟨g, 1, none⟩) (.inl rfl) u1).setCell (p := ⟨g, 2, none⟩) (.inl rfl) u2
theorem okO_go {w w' : World} {o : Option Ch} (h : Ch.okO w o) (hb : Below w.heap.size w w') : Ch.okO w' o := by
  cases o with
  | none => trivial
  | some c => exact Item.go h hb
def Lk.none : Lk := ⟨⟨0, [], false⟩, Option.none, 0⟩
/-- The newest link. -/
def lastL (ls : List Lk) : Lk := ls.getLast?.getD Lk.none
theorem lk_len {ls : List Lk} : ∀ x ∈ ls.map Lk.cells, x.length = 3 := by
  intro x hx
  obtain ⟨p, _, rfl⟩ := List.mem_map.1 hx
  rfl
theorem lkCells_get {ls : List Lk} {i j : Nat} {l : Lk} (hi : ls[i]? = some l) (hj : j < 3) : (lkCells ls)[i * 3 + j]? = l.cells[j]? := by
  unfold lkCells
  rw [List.flatMap_def]
  exact flat_get lk_len (by rw [List.getElem?_map, hi]; rfl) hj
theorem lkCells_len (ls : List Lk) : (lkCells ls).length = ls.length * 3 := by
  induction ls with
  | nil => rfl
  | cons x r ih => show (x.cells ++ lkCells r).length = _; rw [List.length_append, ih, List.length_cons]; show 3 + _ = _; omega
theorem lkCells_snoc (ls : List Lk) (x : Lk) : lkCells (ls ++ [x]) = lkCells ls ++ x.cells := by simp [lkCells, List.flatMap_append]
set_option maxRecDepth 100000 in
set_option maxHeartbeats 1600000 in
theorem clast_any {w : World} {o : Option Ch} (h : Ch.okO w o) (hn : (Ch.ofO o).length ≤ 281474976710656) :
    Calls Tryz.prog 69 #[ptrC o] w fun e w' => e = .returned (.tuple #[.agg (lastL (Ch.ofO o)).cells.toArray, .bool (decide (0 < (Ch.ofO o).length))]) ∧ Below w.heap.size w w' := by
  have hlen := fun w h => clen_any (w := w) (o := o) h
  have HL := Lib.hid hlen
  have hx : 0 < (Ch.ofO o).length → ∃ (g b n c : Nat) (x : Lk), ptrC o = .pointer (some ⟨g, 0, none⟩) ∧ (Ch.ofO o).length = n + 1 ∧ g < w.heap.size ∧ b < w.heap.size ∧ (Ch.ofO o).length ≤ c ∧ lastL (Ch.ofO o) = x ∧ w.cell? ⟨g, 0, none⟩ = some (.slice (some ⟨b, 0, none⟩) (Ch.ofO o).length c) ∧
      w.cell? ⟨b, n * 3, none⟩ = some (.int .i64 x.x.st) ∧ w.cell? ⟨b, n * 3 + 1, none⟩ = some (.slice x.A x.x.v.length x.c) ∧ w.cell? ⟨b, n * 3 + 2, none⟩ = some (.bool x.x.dead) := by
    intro hp
    cases o with
    | none => cases hp
    | some h' =>
      have hp' : 0 < h'.ls.length := hp
      obtain ⟨b, hA, hb, hc, _, _, hcell⟩ := rowT_at (Ch.rowP h) hp'
      have q0 := (Ch.blk h).cell 0
      simp [Ch.row] at q0
      have hg := (Ch.blk h).lt
      obtain ⟨n, hn⟩ : ∃ n, h'.ls.length = n + 1 := ⟨h'.ls.length - 1, by omega⟩
      have hl : h'.ls[n]? = some (lastL h'.ls) := by
        unfold lastL
        rw [List.getLast?_eq_getElem?, hn, Nat.add_sub_cancel, List.getElem?_eq_getElem (by omega)]; rfl
      refine ⟨h'.g, b, n, h'.c, _, rfl, hn, hg, hb, hc, rfl, by rw [q0, hA]; rfl, ?_, ?_, ?_⟩
      · rw [← Nat.add_zero (n * 3), hcell _ (by omega), lkCells_get hl (by omega)]; rfl
      · rw [hcell _ (by omega), lkCells_get hl (by omega)]; rfl
      · rw [hcell _ (by omega), lkCells_get hl (by omega)]; rfl
  have he : (Ch.ofO o).length = 0 → lastL (Ch.ofO o) = Lk.none := fun h => by rw [List.eq_nil_of_length_eq_zero h]; rfl
  have HX := Lib.hid hx
  have HE := Lib.hid he
  have HO := Lib.hid h
  clear hx he hlen h
  obtain ⟨N, hN⟩ : ∃ n, n = (Ch.ofO o).length := ⟨_, rfl⟩
  obtain ⟨V, hV⟩ : ∃ n, n = ptrC o := ⟨_, rfl⟩
  obtain ⟨LL, hLL⟩ : ∃ n, n = lastL (Ch.ofO o) := ⟨_, rfl⟩
  rw [← hN] at HL HX HE hn ⊢
  rw [← hV] at HL HX ⊢
  rw [← hLL] at HX HE ⊢
  clear hN hV hLL
  have BA := Lib.hid ((Below.refl w.heap.size w).alloc (Nat.le_refl _) (.cells #[.int .i64 0, .slice none 0 0, .bool false] 135))
  have KA := Lib.hid (Blk.new w 135 #[.int .i64 0, .slice none 0 0, .bool false])
  go_enter Tryz.func69, Tryz.ntmps69
  go_wp2_with fail
  obtain ⟨W, hW⟩ : ∃ W, W = w.alloc (.cells #[.int .i64 0, .slice none 0 0, .bool false] 135) := ⟨_, rfl⟩
  rw [← hW] at BA KA ⊢
  clear hW
  refine (HL.out W (okO_go HO.out BA.out)).mono ?_
  rintro e w' ⟨rfl, rfl⟩
  clear HL
  have BE := fun u0 u1 u2 => BA.out.trans ((keeps_set3 W w.heap.size u0 u1 u2).below BA.out.size (fun i hi => Nat.le_of_eq hi.symm))
  have HBE := Lib.hid BE
  clear BE
  have r0 := KA.out.cell 0
  have r1 := KA.out.cell 1
  have r2 := KA.out.cell 2
  have f0 := KA.out.frozen 0
  have f1 := KA.out.frozen 1
  have f2 := KA.out.frozen 2
  simp at r0 r1 r2
  rcases Nat.eq_zero_or_pos N with h0 | h0
  · subst h0
    have hx := HE.out rfl
    subst hx
    clear HX HE HO
    have K1 := KA.out.put3 (.int .i64 0) (.slice none 0 0) (.bool false)
    have q0 := K1.cell 0
    have q1 := K1.cell 1
    have q2 := K1.cell 2
    unfold set3 at q0 q1 q2
    simp at q0 q1 q2
    go_wp2
    exact bodyPost_ret (v := .tuple #[.agg Lk.none.cells.toArray, .bool false]) (by simp [results, Tryz.results69, go_sem, q0, q1, q2, Lk.none, Lk.cells]) rfl ⟨rfl, HBE.out _ _ _⟩
  · obtain ⟨g, b, n, c, x, rfl, hNn, hg, hb, hc, hLx, c0, c1, c2, c3⟩ := HX.out h0
    have e0 : W.cell? ⟨g, 0, none⟩ = some (.slice (some ⟨b, 0, none⟩) N c) := (BA.out.cell (p := ⟨g, 0, none⟩) hg).trans c0
    have e1 : W.cell? ⟨b, n * 3, none⟩ = some (.int .i64 x.x.st) := (BA.out.cell (p := ⟨b, n * 3, none⟩) hb).trans c1
    have e2 : W.cell? ⟨b, n * 3 + 1, none⟩ = some (.slice x.A x.x.v.length x.c) := (BA.out.cell (p := ⟨b, n * 3 + 1, none⟩) hb).trans c2
    have e3 : W.cell? ⟨b, n * 3 + 2, none⟩ = some (.bool x.x.dead) := (BA.out.cell (p := ⟨b, n * 3 + 2, none⟩) hb).trans c3
    have d0 : decide ((N : Int) = 0) = false := decide_eq_false (by omega)
    have d1 : (N : Int) - 1 = (n : Int) := by omega
    have hnN : n < N := by omega
    have hgw : ¬ g = w.heap.size := by omega
    have hbw : ¬ b = w.heap.size := by omega
    subst hLx
    have K1 := KA.out.put3 (.int .i64 LL.x.st) (.slice LL.A LL.x.v.length LL.c) (.bool LL.x.dead)
    have q0 := K1.cell 0
    have q1 := K1.cell 1
    have q2 := K1.cell 2
    unfold set3 at q0 q1 q2
    simp at q0 q1 q2
    clear c0 c1 c2 c3 HX HE HO hg hb hNn
    go_upto_region 3 with fail
    go_region
    go_wp2
    exact bodyPost_ret (v := .tuple #[.agg LL.cells.toArray, .bool true]) (by simp [results, Tryz.results69, go_sem, q0, q1, q2, Lk.none, Lk.cells]) rfl ⟨by simp [h0], (HBE.out _ _ _).drew⟩
/-- The chain of a key, of a store that may not be there. -/
def St.getO (so : Option St) (key : ByteArray) : Option Ch := so.bind fun s => getA key.data.toList s.cs
def St.okO (w : World) : Option St → Prop
  | some s => s.item.P w ∧ ∀ p ∈ s.cs, p.2.ls.length ≤ 1099511627776 ∧ ∀ l ∈ p.2.ls, l.x.v.length ≤ 4096
  | none => True
theorem St.okO_go {w w' : World} {so : Option St} (h : St.okO w so) (hb : Below w.heap.size w w') : St.okO w' so := by
  cases so with
  | none => trivial
  | some s => exact ⟨Item.go h.1 hb, h.2⟩
theorem St.okO_get {w : World} {so : Option St} {key : ByteArray} (h : St.okO w so) : Ch.okO w (St.getO so key) ∧ (Ch.ofO (St.getO so key)).length ≤ 1099511627776 ∧ (lastL (Ch.ofO (St.getO so key))).x.v.length ≤ 4096 := by
  cases so with
  | none => exact ⟨trivial, by simp [St.getO, Ch.ofO], by simp [St.getO, Ch.ofO, lastL, Lk.none]⟩
  | some s =>
    show Ch.okO w (getA key.data.toList s.cs) ∧ (Ch.ofO (getA key.data.toList s.cs)).length ≤ _ ∧ (lastL (Ch.ofO (getA key.data.toList s.cs))).x.v.length ≤ _
    cases hg : getA key.data.toList s.cs with
    | none => exact ⟨trivial, by simp [Ch.ofO], by simp [Ch.ofO, lastL, Lk.none]⟩
    | some c =>
      obtain ⟨h1, h2⟩ := h.2 _ (getA_mem hg)
      refine ⟨St.get h.1 hg, h1, ?_⟩
      show (lastL c.ls).x.v.length ≤ 4096
      unfold lastL
      cases hl : c.ls.getLast? with
      | none => simp [Lk.none]
      | some l => exact h2 l (List.mem_of_getLast? hl)
theorem sofO_any {w : World} {so : Option St} (h : St.okO w so) {key : ByteArray} (hk : key.size ≤ maxLen) :
    Calls Tryz.prog 68 #[ptrS so, .string key] w fun e w' => e = .returned (ptrC (St.getO so key)) ∧ w = w' := by
  cases so with
  | none => exact sof_nil
  | some s => exact sof_any h.1 hk
/-- How many bytes of a key are live. -/
def weightL (k : Nat) (ls : List Lk) : Nat := if ls.length = 0 ∨ (lastL ls).x.dead = true then 0 else k + (lastL ls).x.v.length
set_option maxRecDepth 100000 in
set_option maxHeartbeats 1600000 in
/-- How many bytes of a key are live. -/
theorem weight_any {w : World} {so : Option St} (h : St.okO w so) {key : ByteArray} (hk : key.size ≤ 255) :
    Calls Tryz.prog 130 #[ptrS so, .string key] w fun e w' => e = .returned (.int .i64 (weightL key.size (Ch.ofO (St.getO so key)) )) ∧ Below w.heap.size w w' := by
  have H1 := Lib.hid (sofO_any h (Nat.le_trans hk (by decide)))
  have H2 := Lib.hid (clast_any (St.okO_get (key := key) h).1 (by have := (St.okO_get (key := key) h).2.1; omega))
  have hv := (St.okO_get (key := key) h).2.2
  clear h
  unfold weightL
  obtain ⟨V, hV⟩ : ∃ n, n = ptrS so := ⟨_, rfl⟩
  obtain ⟨C, hC⟩ : ∃ n, n = ptrC (St.getO so key) := ⟨_, rfl⟩
  obtain ⟨LL, hLL⟩ : ∃ n, n = lastL (Ch.ofO (St.getO so key)) := ⟨_, rfl⟩
  obtain ⟨N, hN⟩ : ∃ n, n = (Ch.ofO (St.getO so key)).length := ⟨_, rfl⟩
  rw [← hV, ← hC] at H1
  rw [← hC, ← hLL, ← hN] at H2
  rw [← hV, ← hLL, ← hN]
  rw [← hLL] at hv
  clear hV hC hLL hN
  obtain ⟨⟨st, v, dd⟩, A, c⟩ := LL
  rw [show (Lk.cells ⟨⟨st, v, dd⟩, A, c⟩).toArray = #[.int .i64 st, .slice A v.length c, .bool dd] from rfl] at H2
  simp only at hv ⊢
  go_enter Tryz.func130, Tryz.ntmps130
  go_wp2_with fail
  refine H1.out.mono ?_
  rintro e w' ⟨rfl, rfl⟩
  go_wp2_with fail
  refine H2.out.mono ?_
  rintro e w1 ⟨rfl, hb1⟩
  have HB := Lib.hid (hb1.alloc hb1.size (.cells #[.int .i64 st, .slice A v.length c, .bool dd] 135))
  clear hb1 H1 H2
  rcases Nat.eq_zero_or_pos N with h0 | h0
  · subst h0
    go_wp2
    go_ret
    exact ⟨by simp, HB.out⟩
  · have d0 : decide (0 < N) = true := decide_eq_true h0
    have d1 : ¬ N = 0 := by omega
    cases dd
    · go_wp2
      all_goals go_ret
      all_goals exact ⟨by first | rfl | simp_all | (simp_all; omega), HB.out⟩
    · go_wp2
      go_ret
      exact ⟨by simp, HB.out⟩
theorem stown_any {w : World} {B c : Nat} {A : Option Addr} {l : List UInt8} (hr : BReads w B A l) (hl : l.length ≤ 140737488355328) :
    Calls Tryz.prog 104 #[.slice A l.length c] w (GivesB w l) := by
  go_enter Tryz.func104, Tryz.ntmps104
  go_wp2_with (at_builtin; refine Stop.of ?_)
  refine ⟨append_bytes (BOwns.nil w _) hr.src (by simpa using hl) (Nat.le_refl _) rfl rfl rfl rfl ?_⟩
  intro v' w1 hown hg _
  go_wp2
  go_ret
  exact ⟨v', rfl, hown, below_of_nil hg⟩
/-- What is wrong with a version; 0: nothing. -/
def Vn.bad (v : Vn) : Int :=
  if v.key.size < 1 ∨ 255 < v.key.size then 140 else if 4096 < v.value.length ∨ v.dead = true ∧ 0 < v.value.length then 141 else if v.stamp < 0 ∨ 4611686018427387904 < v.stamp then 2 else 0
set_option maxRecDepth 100000 in
set_option maxHeartbeats 1600000 in
theorem stmay_any {w : World} {A : Option Addr} {c : Nat} (v : Vn) :
    Calls Tryz.prog 129 #[.agg (v.cells A c)] w fun e w' => e = .returned (.int .i64 v.bad) ∧ Below w.heap.size w w' := by
  obtain ⟨key, s, p, d⟩ := v
  have HB := Lib.hid ((Below.refl w.heap.size w).alloc (Nat.le_refl _) (.cells #[.string key, .int .i64 s, .slice A p.length c, .bool d] 51))
  obtain ⟨R, hR⟩ : ∃ R, R = Vn.bad ⟨key, s, p, d⟩ := ⟨_, rfl⟩
  rw [← hR]
  have HR := Lib.hid hR
  clear hR
  unfold Vn.cells
  simp only
  cases d
  · go_enter Tryz.func129, Tryz.ntmps129
    go_wp2
    all_goals go_ret
    all_goals refine ⟨congrArg (fun n => Ending.returned (.int .i64 n)) (?_ : _ = R), HB.out⟩
    all_goals (have h := HR.out; unfold Vn.bad at h; simp only at h; rw [h]; clear h HR HB)
    all_goals (repeat' split) <;> first | rfl | omega | (simp_all; omega) | (simp_all; done)
  · go_enter Tryz.func129, Tryz.ntmps129
    go_wp2
    all_goals go_ret
    all_goals refine ⟨congrArg (fun n => Ending.returned (.int .i64 n)) (?_ : _ = R), HB.out⟩
    all_goals (have h := HR.out; unfold Vn.bad at h; simp only at h; rw [h]; clear h HR HB)
    all_goals (repeat' split) <;> first | rfl | omega | (simp_all; omega) | (simp_all; done)
end Go.Proofs.YtmnpchncmbnddaaGreat
