/- Contracts and plain laws that this claim leans on, laid together: Disk4, Wal1, EntK, Wal2, Rdl, PlainE, PlainW, Wal4D. -/
import Derived.Test.YtoecgkdipgaaeaaG07
import Derived.Laws.MakeOwn
import Derived.Test.YtoecgkdipgaaeaaG01
import Derived.Test.YtoecgkdipgaaeaaG05
import Derived.Test.YtoecgkdipgaaeaaG04
import Derived.Test.YtoecgkdipgaaeaaG02
import Derived.Test.YtoecgkdipgaaeaaG06
set_option linter.all false
set_option linter.unusedVariables false
set_option linter.unusedSimpArgs false
set_option linter.unnecessarySimpa false
/- Disks: New, by contract. -/
namespace Go.Proofs.Ytoecgkdipgaaeaa
open Go.RowKit

def zeroPt : List Value := [.pointer none, .int .i64 0, .int .i64 0, .int .u8 0, .int .i64 0]
theorem info_part : (Try.prog.info? 137).map (fun i => (i.zero.map Value.cells, i.size, i.bytes)) = some (some #[.pointer none, .int .i64 0, .int .i64 0, .int .u8 0, .int .i64 0], 5, 40) := by kernel_rfl
/-- The parts that are made, and those that are not. -/
def mixCells (ps : List Pt) (m : Nat) : Array Value := ((ps.map Pt.cells) ++ List.replicate m zeroPt).flatten.toArray
theorem mix_len (ps : List Pt) (m : Nat) : ∀ x ∈ (ps.map Pt.cells) ++ List.replicate m zeroPt, x.length = 5 := by
  intro x hx
  rcases List.mem_append.1 hx with h | h
  · exact pt_len ps x h
  · rw [(List.mem_replicate.1 h).2]; rfl
theorem made_eq (m : Nat) : madeCells #[.pointer none, .int .i64 0, .int .i64 0, .int .u8 0, .int .i64 0] (m * 5) = mixCells [] m := by
  apply Array.ext'
  unfold madeCells mixCells
  apply List.ext_getElem?
  intro t
  simp only [Array.toList_map, Array.toList_range, List.map_nil, List.nil_append, List.getElem?_map]
  by_cases ht : t < m * 5
  · rw [List.getElem?_range ht]
    have hi : (List.replicate m zeroPt)[t / 5]? = some zeroPt := by rw [List.getElem?_replicate, if_pos (by omega)]
    have := flat_get (L := List.replicate m zeroPt) (n := 5) (by intro x hx; rw [(List.mem_replicate.1 hx).2]; rfl) hi (j := t % 5) (by omega)
    rw [show t / 5 * 5 + t % 5 = t from by omega] at this
    rw [this]
    simp only [Option.map_some]
    have h5 : t % 5 < 5 := by omega
    rcases (show t % 5 = 0 ∨ t % 5 = 1 ∨ t % 5 = 2 ∨ t % 5 = 3 ∨ t % 5 = 4 from by omega) with e | e | e | e | e <;> simp [e, zeroPt]
  · rw [List.getElem?_eq_none (by simp; omega), List.getElem?_eq_none]
    · rfl
    · have : ∀ (L : List (List Value)), (∀ x ∈ L, x.length = 5) → L.flatten.length = L.length * 5 := by
        intro L hL
        induction L with
        | nil => rfl
        | cons x L ih => rw [List.flatten_cons, List.length_append, hL x (by simp), ih (fun y hy => hL y (by simp [hy])), List.length_cons]; omega
      rw [this _ (by intro x hx; rw [(List.mem_replicate.1 hx).2]; rfl), List.length_replicate]; omega
theorem mix_set {ps : List Pt} {m : Nat} {p : Pt} (hp : p.cells = .pointer (some ⟨p.a.g, 0, none⟩) :: zeroPt.tail) : (mixCells ps (m + 1)).setIfInBounds (ps.length * 5) (.pointer (some ⟨p.a.g, 0, none⟩)) = mixCells (ps ++ [p]) m := by
  apply Array.ext'
  unfold mixCells
  rw [Array.toList_setIfInBounds]
  show ((ps.map Pt.cells) ++ List.replicate (m + 1) zeroPt).flatten.set _ _ = _
  have := flat_set (mix_len ps (m + 1)) (i := ps.length) (j := 0) (x := zeroPt) (by rw [List.getElem?_append_right (by simp)]; simp [List.replicate_succ]) (by omega) (.pointer (some ⟨p.a.g, 0, none⟩))
  simp only [Nat.add_zero, List.length_map] at this
  rw [this]
  rw [List.set_append_right _ _ (by simp)]
  simp only [List.length_map, Nat.sub_self, List.replicate_succ, List.set_cons_zero, List.map_append, List.map_cons, List.map_nil, List.append_assoc, List.cons_append, List.nil_append]
  rw [hp]; rfl
theorem mix_get (ps : List Pt) (m : Nat) : (mixCells ps (m + 1))[ps.length * 5]? = some (.pointer none) := by
  unfold mixCells
  rw [List.getElem?_toArray]
  have := flat_get (mix_len ps (m + 1)) (i := ps.length) (j := 0) (x := zeroPt) (by rw [List.getElem?_append_right (by simp)]; simp [List.replicate_succ]) (by omega)
  simp only [Nat.add_zero] at this
  rw [this]; rfl
theorem mix_done (ps : List Pt) : mixCells ps 0 = partCells ps := by unfold mixCells partCells; simp
/-- A part with an empty area and no fate. -/
def freshPt (g : Nat) : Pt := ⟨⟨g, none, 0, 0, [], 0⟩, 0, 0, 0, 0⟩
/-- The pieces of a disk that is being made. -/
def newPieces (g gp n : Nat) (ps : List Pt) (m : Nat) : List Item := Item.blk g 131 #[.slice (some ⟨gp, 0, none⟩) n n, .bool false] :: Item.blk gp 137 (mixCells ps m) :: ps.map (fun p => p.a.item)
theorem new_step {w w1 w2 : World} {g gp n m : Nat} {ps : List Pt} (t : Turn (Item.all []) w (Item.all (newPieces g gp n ps (m + 1))) w1) (hb : Below w1.heap.size w1 w2) (ha : (freshPt w1.heap.size).a.item.P w2) :
    Turn (Item.all []) w (Item.all (newPieces g gp n (ps ++ [freshPt w1.heap.size]) m)) (w2.setCell ⟨gp, ps.length * 5, none⟩ (.pointer (some ⟨w1.heap.size, 0, none⟩))) := by
  have t1 := Turn.new t.p hb ha (fun k hk => by
    obtain ⟨i, hi, hk⟩ := hk
    simp only [List.mem_cons, List.not_mem_nil, or_false] at hi
    rcases hi with rfl | rfl
    · have : k = w1.heap.size := hk
      omega
    · cases hk)
  have hx : ((freshPt w1.heap.size).a.item :: newPieces g gp n ps (m + 1))[2]? = some (Item.blk gp 137 (mixCells ps (m + 1))) := rfl
  have hblk : Blk w2 gp 137 (mixCells ps (m + 1)) := Item.all_get t1.p (List.mem_of_getElem? hx)
  have t2 := Turn.set t1.p hx (Turn.cell hblk (ps.length * 5) (.pointer (some ⟨w1.heap.size, 0, none⟩)))
  rw [show (Value.pointer (some ⟨w1.heap.size, 0, none⟩)) = .pointer (some ⟨(freshPt w1.heap.size).a.g, 0, none⟩) from rfl, mix_set (p := freshPt w1.heap.size) rfl] at t2
  refine ((t.trans t1).trans t2).permR ?_
  have e : (((freshPt w1.heap.size).a.item :: newPieces g gp n ps (m + 1)).set 2 (Item.blk gp 137 (mixCells (ps ++ [freshPt w1.heap.size]) m))) =
      (freshPt w1.heap.size).a.item :: Item.blk g 131 #[.slice (some ⟨gp, 0, none⟩) n n, .bool false] :: Item.blk gp 137 (mixCells (ps ++ [freshPt w1.heap.size]) m) :: ps.map (fun p => p.a.item) := rfl
  rw [e]
  unfold newPieces
  rw [List.map_append]
  refine ((List.Perm.swap _ _ _).trans ((List.Perm.swap _ _ _).cons _)).trans (((?_ : List.Perm _ _).cons _).cons _)
  exact (List.perm_append_singleton _ _).symm
set_option maxRecDepth 100000 in
set_option maxHeartbeats 1600000 in
theorem dNew_any {w : World} (n : Nat) (h1 : 1 ≤ n) (h16 : n ≤ 16) :
    Calls Try.prog 44 #[.int .i64 n] w fun e w' => ∃ d : Dk, d.armed = false ∧ d.ps.length = n ∧ (∀ p ∈ d.ps, p = freshPt p.a.g) ∧ e = .returned (.tuple #[.pointer (some ⟨d.g, 0, none⟩), .int .i64 0]) ∧ Turn (Item.all []) w d.item w' := by
  have n1 : (1 : Int) ≤ (n : Int) := by omega
  have n2 : (n : Int) ≤ 16 := by omega
  obtain ⟨i0, hi0, hi1⟩ := Option.map_eq_some_iff.1 info_part
  simp only [Prod.mk.injEq] at hi1
  obtain ⟨hz, hs, hby⟩ := hi1
  obtain ⟨z, hz0, hzc⟩ := Option.map_eq_some_iff.1 hz
  have hm : ∀ w : World, (Instr.makeSlice 129 (.int .i64 n) (.int .i64 n)).run Try.prog w = .ok (.slice (some ⟨w.heap.size, 0, none⟩) n n) (w.alloc (.cells (mixCells [] n) 137)) := by
    intro w
    have := run_makeSlice (P := Try.prog) w 129 137 i0 z Try.underlying129 hi0 hz0 .i64 .i64 n n (by omega) (Int.le_refl _) (by rw [hs]; omega) (by rw [hby]; omega) (by omega)
    rw [hs, hzc, Int.toNat_natCast, made_eq] at this
    exact this
  clear hz hs hby hz0 hzc hi0
  have T0 := Lib.hid (show Turn (Item.all []) w (Item.all (newPieces (w.heap.size + 1) w.heap.size n [] n)) ((w.alloc (.cells (mixCells [] n) 137)).alloc (.cells #[.slice (some ⟨w.heap.size, 0, none⟩) n n, .bool false] 131)) from by
    have p0 : (Item.all []).P w := ⟨fun i hi => (by cases hi), List.Pairwise.nil⟩
    have t1 := Turn.new (y := Item.blk w.heap.size 137 (mixCells [] n)) p0 ((Below.refl _ _).alloc (Nat.le_refl _) (.cells (mixCells [] n) 137)) (Blk.new w _ _) (fun k hk => by have : k = w.heap.size := hk; omega)
    have hb2 := Blk.new (w.alloc (.cells (mixCells [] n) 137)) 131 #[.slice (some ⟨w.heap.size, 0, none⟩) n n, .bool false]
    have t2 := Turn.new (y := Item.blk (w.heap.size + 1) 131 #[.slice (some ⟨w.heap.size, 0, none⟩) n n, .bool false]) t1.p ((Below.refl _ _).alloc (Nat.le_refl _) (.cells #[.slice (some ⟨w.heap.size, 0, none⟩) n n, .bool false] 131)) (show Blk _ (w.heap.size + 1) _ _ from by simpa using hb2) (fun k hk => by have : k = w.heap.size + 1 := hk; simp; omega)
    exact t1.trans t2)
  go_enter Try.func44, Try.ntmps44
  go_upto_region 4 with fail
  obtain ⟨W, hW⟩ : ∃ W, W = (w.alloc (.cells (mixCells [] n) 137)).alloc (.cells #[.slice (some ⟨w.heap.size, 0, none⟩) n n, .bool false] 131) := ⟨_, rfl⟩
  obtain ⟨g, hg⟩ : ∃ g, g = w.heap.size + 1 := ⟨_, rfl⟩
  obtain ⟨gp, hgp⟩ : ∃ g, g = w.heap.size := ⟨_, rfl⟩
  rw [← hW, ← hg, ← hgp] at T0
  rw [← hW, ← hg, ← hgp]
  clear hW hg hgp hm
  have q0 := (show Blk W g 131 _ from Item.all_get T0.out.p (List.mem_cons_self ..)).cell 0
  simp at q0
  go_wp2
  clear q0
  go_loopw [21] (fun i wr => ∃ (K m : Nat) (ps : List Pt), i = .int .i64 K ∧ Hid (ps.length = K) ∧ K + m = n ∧ Hid (∀ p ∈ ps, p = freshPt p.a.g) ∧ Hid (Turn (Item.all []) w (Item.all (newPieces g gp n ps m)) wr)) (fun i _ => n - (intOf i).toNat)
  case atStart => exact ⟨0, n, [], rfl, Lib.hid rfl, by omega, Lib.hid (fun p hp => by cases hp), T0⟩
  case round =>
    obtain ⟨K, m, ps, rfl, hps, hKm, hfr, hT⟩ := hrel
    clear T0
    have hblk : Blk wr g 131 #[.slice (some ⟨gp, 0, none⟩) n n, .bool false] := Item.all_get hT.out.p (List.mem_cons_self ..)
    have hpb : Blk wr gp 137 (mixCells ps m) := Item.all_get hT.out.p (List.mem_cons_of_mem _ (List.mem_cons_self ..))
    have hne : ¬ g = gp := (List.pairwise_cons.1 hT.out.p.2).1 _ (List.mem_cons_self ..) g rfl
    have hnp : (⟨gp, K * 5, none⟩ : Addr) ≠ ⟨g, 0, none⟩ := fun e => hne (by injection e with e _; exact e.symm)
    by_cases hlt : (K : Int) < (n : Int)
    · obtain ⟨m', rfl⟩ : ∃ m', m = m' + 1 := ⟨m - 1, by omega⟩
      have y0 : wr.drew.cell? ⟨g, 0, none⟩ = some (.slice (some ⟨gp, 0, none⟩) n n) := by have := hblk.cell 0; simpa using this
      have HGL := Lib.hid hblk.lt
      have HPB := Lib.hid hpb
      have HTD := Lib.hid (hT.out.go (Below.refl _ _).drew)
      have HMG := Lib.hid (show (mixCells ps (m' + 1))[K * 5]? = some (.pointer none) from by rw [← hps.out]; exact mix_get ps m')
      have hKn : K < n := by omega
      have hKm' : K + 1 + m' = n := by omega
      clear hblk hpb hT hKm
      go_upto_region 7 with fail
      go_region_held3 (fun w' => w'.cell? ⟨g, 0, none⟩ = some (.slice (some ⟨gp, 0, none⟩) n n)) (first | (with_reducible exact y0) | (with_reducible exact z0) | (exact (World.cell?_setCell_other w2 ⟨gp, K * 5, none⟩ ⟨g, 0, none⟩ _ hnp).trans z0) | go_keep) ((go_at_call 76; refine aNew_any.mono ?_; rintro e w2 ⟨rfl, hP, hb⟩; have HP := Lib.hid hP; have HB := Lib.hid hb; have z0 := (hb.cell (p := ⟨g, 0, none⟩) HGL.out).trans y0; have z1 := (HPB.out.drewN 1).below' (w' := w2) hb; have fz := z1.frozen (K * 5); have cz := z1.cell (K * 5); rw [HMG.out] at cz; clear hP hb z1))
      have HT2 := Lib.hid (new_step HTD.out HB.out HP.out)
      rw [hps.out] at HT2
      have HF2 := Lib.hid (show ∀ p ∈ ps ++ [freshPt wr.drew.heap.size], p = freshPt p.a.g from by
        intro p hp
        rcases List.mem_append.1 hp with h | h
        · exact hfr.out p h
        · simp only [List.mem_cons, List.not_mem_nil, or_false] at h; subst h; rfl)
      have HL2 := Lib.hid (show (ps ++ [freshPt wr.drew.heap.size]).length = K + 1 from by rw [List.length_append, hps.out]; rfl)
      clear HP HB z0 fz cz HTD HPB hfr
      go_wp2
      exact ⟨⟨K + 1, m', _, by go_num, HL2, hKm', HF2, HT2⟩, by simp [intOf]; omega⟩
    · obtain rfl : m = 0 := by omega
      have HPS := Lib.hid (show ps.length = n from by rw [hps.out]; omega)
      have HT2 := hT
      clear hblk hpb hT
      go_wp2
      go_ret2
      refine ⟨⟨g, gp, false, ps⟩, rfl, HPS.out, hfr.out, rfl, ?_⟩
      have := HT2.out
      unfold newPieces at this
      rw [mix_done] at this
      unfold Dk.item Dk.pieces
      rw [HPS.out]
      exact this
end Go.Proofs.Ytoecgkdipgaaeaa
/- Logs: Open, Sync, Cut, Trim, Bounds, by contract (printed by a program of this claim's own). -/
namespace Go.Proofs.Ytoecgkdipgaaeaa
open Go.RowKit

def logCells (d : Dk) (i : Nat) : Array Value := #[.pointer (some ⟨d.g, 0, none⟩), .int .i64 i]
/-- A log and its disk. -/
def lgItem (gl : Nat) (d : Dk) (i : Nat) : Item := Item.all [Item.blk gl 141 (logCells d i), d.item]
theorem lg_blk {w : World} {gl i : Nat} {d : Dk} (h : (lgItem gl d i).P w) : Blk w gl 141 (logCells d i) := Item.all_get h (List.mem_cons_self ..)
theorem lg_disk {w : World} {gl i : Nat} {d : Dk} (h : (lgItem gl d i).P w) : d.item.P w := Item.all_get (x := d.item) h (by simp)
/-- An operation of the log's area was carried out. -/
def LogPost (gl : Nat) (d : Dk) (i : Nat) (p : Pt) (w : World) (R : Ar → Prop) (e : Ending) (w' : World) : Prop :=
  ∃ b, R b ∧ b.g = p.a.g ∧ e = .returned (.int .i64 0) ∧ Turn (lgItem gl d i) w (lgItem gl (d.put i { p with a := b, done := p.done + 1 }) i) w'
theorem lg_turn {w w' : World} {gl i : Nat} {d d' : Dk} (h : (lgItem gl d i).P w) (t : Turn d.item w d'.item w') (hg : d'.g = d.g) : Turn (lgItem gl d i) w (lgItem gl d' i) w' := by
  unfold lgItem logCells
  rw [hg]
  exact Turn.second h t
set_option maxRecDepth 100000 in
set_option maxHeartbeats 1600000 in
theorem lOpen_any {w : World} {d : Dk} (h : d.item.P w) (hn : d.ps.length ≤ 16) (i : Nat) {p : Pt} (hi0 : d.ps[i]? = some p) (hb0 : 0 ≤ p.a.base) (hb1 : p.a.base ≤ 4611686018427387904) (hl : p.a.l.length ≤ 140737488355328) (hs : p.a.safe ≤ p.a.l.length) :
    Calls Try.prog 45 #[.pointer (some ⟨d.g, 0, none⟩), .int .i64 i] w fun e w' => ∃ gl, w.heap.size ≤ gl ∧ e = .returned (.tuple #[.pointer (some ⟨gl, 0, none⟩), .int .i64 0]) ∧ Blk w' gl 141 (logCells d i) ∧ Below w.heap.size w w' := by
  have hx := dBounds_any h hn i hi0 hb0 hb1 hl hs
  have HX := Lib.hid hx
  clear hx h hi0
  go_enter Try.func45, Try.ntmps45
  go_wp2_with fail
  refine HX.out.mono ?_
  rintro e w1 ⟨rfl, hb⟩
  have HB := Lib.hid (hb.alloc hb.size (.cells #[.pointer (some ⟨d.g, 0, none⟩), .int .i64 i] 141))
  have HK := Lib.hid (Blk.new w1 141 #[.pointer (some ⟨d.g, 0, none⟩), .int .i64 i])
  have HS := Lib.hid hb.size
  clear hb
  go_wp2
  go_ret2
  exact ⟨w1.heap.size, HS.out, rfl, HK.out, HB.out⟩
set_option maxRecDepth 100000 in
set_option maxHeartbeats 1600000 in
theorem lSync_any {w : World} {gl : Nat} {d : Dk} (i : Nat) {p : Pt} (h : (lgItem gl d i).P w) (hn : d.ps.length ≤ 16) (hi0 : d.ps[i]? = some p) (hd0 : 0 ≤ p.done) (hd1 : p.done ≤ 1000000000000000000) (hgo : d.armed = true → p.done < p.fd)   :
    Calls Try.prog 83 #[.pointer (some ⟨gl, 0, none⟩)] w (LogPost gl d i p w (fun a' => a' = { p.a with safe := p.a.l.length })) := by
  have y0 : w.drew.cell? ⟨gl, 0, none⟩ = some (.pointer (some ⟨d.g, 0, none⟩)) := by have := (lg_blk h).cell 0; simpa [logCells] using this
  have y1 : w.drew.cell? ⟨gl, 1, none⟩ = some (.int .i64 i) := by have := (lg_blk h).cell 1; simpa [logCells] using this
  have H := Lib.hid (Item.go h (Below.refl _ _).drew)
  have hx := dSync_any (lg_disk H.out) hn i hi0 hd0 hd1 hgo
  have HX := Lib.hid hx
  clear hx h hi0 hgo
  go_enter Try.func83, Try.ntmps83
  go_upto_region 3 with fail
  go_region_held3 (fun w' => w'.cell? ⟨gl, 0, none⟩ = some (.pointer (some ⟨d.g, 0, none⟩)) ∧ w'.cell? ⟨gl, 1, none⟩ = some (.int .i64 i)) (first | (with_reducible exact ⟨y0, y1⟩) | (with_reducible exact ⟨z0, z1⟩) | go_keep) ((go_at_call 105; refine HX.out.mono ?_; rintro e w2 ⟨b', hR, hg, rfl, t⟩; have TT := Lib.hid (lg_turn H.out t rfl); have z0 : w2.cell? ⟨gl, 0, none⟩ = some (.pointer (some ⟨d.g, 0, none⟩)) := (by have := (lg_blk TT.out.p).cell 0; simpa [logCells, Dk.put] using this); have z1 : w2.cell? ⟨gl, 1, none⟩ = some (.int .i64 i) := (by have := (lg_blk TT.out.p).cell 1; simpa [logCells] using this); have HR := Lib.hid hR; have HG := Lib.hid hg; clear hR hg t))
  go_wp2
  go_ret
  exact ⟨b', HR.out, HG.out, rfl, Turn.pre (Below.refl _ _).drew TT.out⟩
set_option maxRecDepth 100000 in
set_option maxHeartbeats 1600000 in
theorem lSync_down {w : World} {gl : Nat} {d : Dk} (i : Nat) {p : Pt} (h : (lgItem gl d i).P w) (hn : d.ps.length ≤ 16) (hi0 : d.ps[i]? = some p) (hd0 : 0 ≤ p.done) (hd1 : p.done ≤ 1000000000000000000) (ha : d.armed = true) (hdn : p.fd ≤ p.done)  :
    Calls Try.prog 83 #[.pointer (some ⟨gl, 0, none⟩)] w fun e w' => e = .returned (.int .i64 80) ∧ Below w.heap.size w w' := by
  have y0 : w.drew.cell? ⟨gl, 0, none⟩ = some (.pointer (some ⟨d.g, 0, none⟩)) := by have := (lg_blk h).cell 0; simpa [logCells] using this
  have y1 : w.drew.cell? ⟨gl, 1, none⟩ = some (.int .i64 i) := by have := (lg_blk h).cell 1; simpa [logCells] using this
  have H := Lib.hid (Item.go h (Below.refl _ _).drew)
  have HL := Lib.hid (show gl < w.drew.heap.size from (lg_blk h).lt)
  have hx := dSync_down (lg_disk H.out) hn i hi0 hd0 hd1 ha hdn
  have HX := Lib.hid hx
  clear hx h hi0 ha
  go_enter Try.func83, Try.ntmps83
  go_upto_region 3 with fail
  go_region_held3 (fun w' => w'.cell? ⟨gl, 0, none⟩ = some (.pointer (some ⟨d.g, 0, none⟩)) ∧ w'.cell? ⟨gl, 1, none⟩ = some (.int .i64 i)) (first | (with_reducible exact ⟨y0, y1⟩) | (with_reducible exact ⟨z0, z1⟩) | go_keep) ((go_at_call 105; refine HX.out.mono ?_; rintro e w2 ⟨rfl, hb⟩; have HB := Lib.hid hb; have z0 := (hb.cell (p := ⟨gl, 0, none⟩) HL.out).trans y0; have z1 := (hb.cell (p := ⟨gl, 1, none⟩) HL.out).trans y1; clear hb))
  go_wp2
  go_ret
  exact ⟨rfl, ((Below.refl w.heap.size w).drew).trans HB.out⟩
end Go.Proofs.Ytoecgkdipgaaeaa
/- Entries and versions as arguments: how they lie in memory. -/
namespace Go.Proofs.Ytoecgkdipgaaeaa
open Go.RowKit

def kEn : Kd En := kAs (kPair (kInt .i64) (kPair (kInt .i64) (kPair (kInt .i64) (kPair kStr (kPair kBytes kBool))))) (fun s => (s.kind, s.stamp, s.count, s.key, s.value, s.dead))
set_option maxRecDepth 100000 in
theorem opens_en : Opens kEn 31 :=
  opens_as (opens_struct (K := kPair (kInt .i64) (kPair (kInt .i64) (kPair (kInt .i64) (kPair kStr (kPair kBytes kBool))))) (by kernel_rfl) Try.underlying31
    (opensF_cons (opens_int (by kernel_rfl) Try.underlying3) rfl (opensF_cons (opens_int (by kernel_rfl) Try.underlying3) rfl (opensF_cons (opens_int (by kernel_rfl) Try.underlying3) rfl
      (opensF_cons (opens_str (by kernel_rfl) Try.underlying9) rfl (opensF_cons (opens_bytes (T := 29) (E := 5) (by kernel_rfl) Try.underlying29 Try.underlying5 (by kernel_rfl) (by kernel_rfl)) rfl
        (opensF_one (opens_bool (by kernel_rfl) Try.underlying4) rfl)))))))
    (fun s : En => (s.kind, s.stamp, s.count, s.key, s.value, s.dead)) (fun a => ⟨a.1, a.2.1, a.2.2.1, a.2.2.2.1, a.2.2.2.2.1, a.2.2.2.2.2⟩) (fun _ => rfl)
def kVn : Kd Vn := kAs (kPair kStr (kPair (kInt .i64) (kPair kBytes kBool))) (fun s => (s.key, s.stamp, s.value, s.dead))
set_option maxRecDepth 100000 in
theorem opens_vn : Opens kVn 33 :=
  opens_as (opens_struct (K := kPair kStr (kPair (kInt .i64) (kPair kBytes kBool))) (by kernel_rfl) Try.underlying33
    (opensF_cons (opens_str (by kernel_rfl) Try.underlying9) rfl (opensF_cons (opens_int (by kernel_rfl) Try.underlying3) rfl
      (opensF_cons (opens_bytes (T := 29) (E := 5) (by kernel_rfl) Try.underlying29 Try.underlying5 (by kernel_rfl) (by kernel_rfl)) rfl
        (opensF_one (opens_bool (by kernel_rfl) Try.underlying4) rfl)))))
    (fun s : Vn => (s.key, s.stamp, s.value, s.dead)) (fun a => ⟨a.1, a.2.1, a.2.2.1, a.2.2.2⟩) (fun _ => rfl)
/-- The numbers of an entry are ints. -/
def En.ints (x : En) : Prop := (-9223372036854775808 ≤ x.kind ∧ x.kind ≤ 9223372036854775807) ∧ (-9223372036854775808 ≤ x.stamp ∧ x.stamp ≤ 9223372036854775807) ∧ (-9223372036854775808 ≤ x.count ∧ x.count ≤ 9223372036854775807)
def Vn.ints (x : Vn) : Prop := -9223372036854775808 ≤ x.stamp ∧ x.stamp ≤ 9223372036854775807
theorem en_R {w : World} {B : Nat} {t : En} {cs : List Value} (h : kEn.R w B t cs) : ∃ A' c', cs = (t.cells A' c').toList ∧ t.ints ∧ BReads w B A' t.value ∧ t.value.length ≤ c' := by
  obtain ⟨c1, c2, rfl, ⟨rfl, hk⟩, c3, c4, rfl, ⟨rfl, hs⟩, c5, c6, rfl, ⟨rfl, hn⟩, c7, c8, rfl, rfl, c9, c10, rfl, ⟨A', c', rfl, hc, hp⟩, rfl⟩ := h
  have hk' : -9223372036854775808 ≤ t.kind ∧ t.kind ≤ 9223372036854775807 := by simpa [Lit.wf, IntKind.min, IntKind.max, IntKind.signed, IntKind.bits] using hk
  have hs' : -9223372036854775808 ≤ t.stamp ∧ t.stamp ≤ 9223372036854775807 := by simpa [Lit.wf, IntKind.min, IntKind.max, IntKind.signed, IntKind.bits] using hs
  have hn' : -9223372036854775808 ≤ t.count ∧ t.count ≤ 9223372036854775807 := by simpa [Lit.wf, IntKind.min, IntKind.max, IntKind.signed, IntKind.bits] using hn
  exact ⟨A', c', rfl, ⟨hk', hs', hn'⟩, hp, hc⟩
theorem en_open {w : World} {B : Nat} {t : En} {cs : Array Value} (h : kEn.R w B t (Value.agg cs).cells.toList) : ∃ A' c', cs = t.cells A' c' ∧ t.ints ∧ BReads w B A' t.value ∧ t.value.length ≤ c' := by
  obtain ⟨A', c', e, h1, h2, h3⟩ := en_R h
  exact ⟨A', c', Array.ext' e, h1, h2, h3⟩
theorem vn_R {w : World} {B : Nat} {t : Vn} {cs : List Value} (h : kVn.R w B t cs) : ∃ A' c', cs = (t.cells A' c').toList ∧ t.ints ∧ BReads w B A' t.value ∧ t.value.length ≤ c' := by
  obtain ⟨c1, c2, rfl, rfl, c3, c4, rfl, ⟨rfl, hs⟩, c5, c6, rfl, ⟨A', c', rfl, hc, hp⟩, rfl⟩ := h
  have hs' : -9223372036854775808 ≤ t.stamp ∧ t.stamp ≤ 9223372036854775807 := by simpa [Lit.wf, IntKind.min, IntKind.max, IntKind.signed, IntKind.bits] using hs
  exact ⟨A', c', rfl, hs', hp, hc⟩
theorem vn_open {w : World} {B : Nat} {t : Vn} {cs : Array Value} (h : kVn.R w B t (Value.agg cs).cells.toList) : ∃ A' c', cs = t.cells A' c' ∧ t.ints ∧ BReads w B A' t.value ∧ t.value.length ≤ c' := by
  obtain ⟨A', c', e, h1, h2, h3⟩ := vn_R h
  exact ⟨A', c', Array.ext' e, h1, h2, h3⟩
theorem en_fits {t : En} (h : kEn.fits t) : t.key.size ≤ 140737488355328 ∧ t.value.length ≤ 140737488355328 := by
  have h1 : t.key.size ≤ reachBytes := h.2.2.2.1
  have h2 : t.value.length ≤ reachBytes := h.2.2.2.2.1
  unfold reachBytes at h1 h2
  exact ⟨by omega, by omega⟩
theorem vn_fits {t : Vn} (h : kVn.fits t) : t.key.size ≤ 140737488355328 ∧ t.value.length ≤ 140737488355328 := by
  have h1 : t.key.size ≤ reachBytes := h.1
  have h2 : t.value.length ≤ reachBytes := h.2.2.1
  unfold reachBytes at h1 h2
  exact ⟨by omega, by omega⟩
theorem en_bulk (t : En) : t.key.size + t.value.length ≤ kEn.bulk t := by
  show _ ≤ 1 + (1 + (1 + ((t.key.size + 1) + ((t.value.length + 1) + 1)))); omega
theorem vn_bulk (t : Vn) : t.key.size + t.value.length ≤ kVn.bulk t := by
  show _ ≤ (t.key.size + 1) + (1 + ((t.value.length + 1) + 1)); omega
end Go.Proofs.Ytoecgkdipgaaeaa
/- Logs: Write, by contract. -/
namespace Go.Proofs.Ytoecgkdipgaaeaa
open Go.RowKit

theorem en_at {w : World} {B : Nat} {A : Option Addr} {l : List En} (h : kEn.Sl w B A l) {i : Nat} (hi : i < l.length) :
    ∃ b off A' c', A = some ⟨b, off, none⟩ ∧ b < B ∧ (l[i]).ints ∧ w.cell? ⟨b, off + i * 6, none⟩ = some (.int .i64 (l[i]).kind) ∧ w.cell? ⟨b, off + i * 6 + 1, none⟩ = some (.int .i64 (l[i]).stamp) ∧
      w.cell? ⟨b, off + i * 6 + 2, none⟩ = some (.int .i64 (l[i]).count) ∧ w.cell? ⟨b, off + i * 6 + 3, none⟩ = some (.string (l[i]).key) ∧ w.cell? ⟨b, off + i * 6 + 4, none⟩ = some (.slice A' (l[i]).value.length c') ∧
      w.cell? ⟨b, off + i * 6 + 5, none⟩ = some (.bool (l[i]).dead) ∧ BReads w B A' (l[i]).value := by
  obtain ⟨b, off, hA, hb, hr⟩ := h (by omega)
  obtain ⟨cs, hR, hc⟩ := hr i _ (List.getElem?_eq_getElem hi)
  obtain ⟨A', c', rfl, h1, h2, _⟩ := en_R hR
  exact ⟨b, off, A', c', hA, hb, h1, hc 0 _ rfl, hc 1 _ rfl, hc 2 _ rfl, hc 3 _ rfl, hc 4 _ rfl, hc 5 _ rfl, h2⟩
/-- What holds in every world in which the blocks outside of S are as they were. -/
def Stays (S : Nat → Prop) (w : World) (Q : World → Prop) : Prop := ∀ w' : World, (∀ k, k < w.heap.size → ¬ S k → w'.heap[k]? = w.heap[k]?) → Q w'
theorem Stays.at_ {S : Nat → Prop} {w w' : World} {Q : World → Prop} (h : Stays S w Q) (hk : Keeps S w w') : Q w' := h w' fun k hlt hn => hk.block k hlt hn
theorem Stays.self {S : Nat → Prop} {w : World} {Q : World → Prop} (h : Stays S w Q) : Q w := h w fun _ _ _ => rfl
/-- The bytes of entries, one frame behind the other. -/
def framesF (es : List En) : List UInt8 := (es.map fun e => frameF e.enc).flatten
theorem framesF_snoc {es : List En} {K : Nat} (h : K < es.length) : framesF (es.take (K + 1)) = framesF (es.take K) ++ frameF (es[K]).enc := by
  unfold framesF
  rw [List.take_succ_eq_append_getElem h, List.map_append, List.flatten_append]; simp
theorem framesF_len {es : List En} (h : ∀ e ∈ es, e.may) : (framesF es).length ≤ 5009 * es.length := by
  induction es with
  | nil => simp [framesF]
  | cons x r ih =>
    have h1 := ih (fun e he => h e (by simp [he]))
    have h2 := En.enc_len (h x (by simp))
    have e : framesF (x :: r) = frameF x.enc ++ framesF r := rfl
    rw [e, List.length_append, frameF_len, List.length_cons]; omega
/-- What a Write has come to: so many entries are written; why no more were. -/
def WritePost (gl : Nat) (d : Dk) (i : Nat) (p : Pt) (es : List En) (w : World) (e : Ending) (w' : World) : Prop :=
  ∃ (K : Nat) (A : Option Addr) (c : Nat) (m : Int), K ≤ es.length ∧ e = .returned (.int .i64 m) ∧ (∀ x ∈ es.take K, x.may) ∧ (∀ j : Nat, j < K → d.armed = true → p.done + j < p.fd) ∧
    (m = 0 ∧ K = es.length ∨ (m = 100 ∧ ∃ h : K < es.length, ¬ (es[K]).may) ∨ (m = 80 ∧ K < es.length ∧ d.armed = true ∧ p.fd ≤ p.done + K)) ∧
    Turn (lgItem gl d i) w (lgItem gl (d.put i { p with a := { p.a with A := A, c := c, l := p.a.l ++ framesF (es.take K) }, done := p.done + K }) i) w'
theorem put_same {d : Dk} {i : Nat} {p : Pt} (h : d.ps[i]? = some p) : d.put i p = d := by
  obtain ⟨hlt, he⟩ := List.getElem?_eq_some_iff.1 h
  unfold Dk.put
  rw [← he, List.set_getElem_self]
set_option maxRecDepth 100000 in
set_option maxHeartbeats 3200000 in
theorem lWrite_any {w : World} {gl : Nat} {d : Dk} (i : Nat) {p : Pt} (h : (lgItem gl d i).P w) (hn : d.ps.length ≤ 16) (hi0 : d.ps[i]? = some p) (hd0 : 0 ≤ p.done) (hd1 : p.done ≤ 100000000000000000)
    {A : Option Addr} {c : Nat} {es : List En} (hS : Stays (lgItem gl d i).own w (fun w' => kEn.Sl w' w.heap.size A es)) (hks : ∀ e ∈ es, e.key.size ≤ 140737488355328 ∧ e.value.length ≤ 140737488355328)
    (htot : p.a.l.length + 5009 * es.length ≤ 140737488355328) :
    Calls Try.prog 82 #[.pointer (some ⟨gl, 0, none⟩), .slice A es.length c] w (WritePost gl d i p es w) := by
  have H := Lib.hid h
  have HI := Lib.hid hi0
  have HS := Lib.hid hS
  have HKS := Lib.hid hks
  have HT0 := Lib.hid (show Turn (lgItem gl d i) w (lgItem gl (d.put i { p with a := { p.a with A := p.a.A, c := p.a.c, l := p.a.l ++ framesF (es.take 0) }, done := p.done + (0 : Nat) }) i) w from by
    have e : ({ p with a := { p.a with A := p.a.A, c := p.a.c, l := p.a.l ++ framesF (es.take 0) }, done := p.done + (0 : Nat) } : Pt) = p := by
      obtain ⟨a, fd, fk, ft, dn⟩ := p
      obtain ⟨g, A, c, b, l, s⟩ := a
      simp [framesF]
    rw [e, put_same hi0]
    exact Turn.refl h)
  have heslen : es.length ≤ 100000000000000 := by omega
  clear h hi0 hS hks
  go_enter Try.func82, Try.ntmps82
  go_wp2
  go_loopw [15] (fun t wr => ∃ (K : Nat) (A' : Option Addr) (c' : Nat), t = .int .i64 K ∧ K ≤ es.length ∧ Hid (∀ x ∈ es.take K, x.may) ∧ Hid (∀ j : Nat, j < K → d.armed = true → p.done + j < p.fd) ∧
    Hid (Turn (lgItem gl d i) w (lgItem gl (d.put i { p with a := { p.a with A := A', c := c', l := p.a.l ++ framesF (es.take K) }, done := p.done + K }) i) wr)) (fun t _ => es.length - (intOf t).toNat)
  case atStart => exact ⟨0, _, _, rfl, by omega, Lib.hid (fun x hx => by simp at hx), Lib.hid (fun j hj => by omega), HT0⟩
  case round =>
    obtain ⟨K, A', c', rfl, hK, hM, hD, hT⟩ := hrel
    clear HT0
    by_cases hlt : (K : Int) < (es.length : Int)
    · have hKN : K < es.length := by omega
      obtain ⟨bb, off, Av, cv, rfl, hbb, hints, s0, s1, s2, s3, s4, s5, hval⟩ := en_at (HS.out.at_ hT.out.k) hKN
      have hbr : bb < wr.heap.size := Nat.lt_of_lt_of_le hbb hT.out.k.size
      have hks := HKS.out _ (List.getElem_mem hKN)
      have HX := Lib.hid (framesF_snoc hKN)
      have HMX : Hid ((es[K]).may → ∀ x ∈ es.take (K + 1), x.may) := Lib.hid (fun hm x hx => by
        rw [List.take_succ_eq_append_getElem hKN] at hx
        rcases List.mem_append.1 hx with h | h
        · exact hM.out x h
        · simp only [List.mem_cons, List.not_mem_nil, or_false] at h; subst h; exact hm)
      have HNO : Hid (¬ (es[K]).may → ∃ h : K < es.length, ¬ (es[K]).may) := Lib.hid (fun h => ⟨hKN, h⟩)
      obtain ⟨x, hx⟩ : ∃ x, x = es[K] := ⟨_, rfl⟩
      rw [← hx] at s0 s1 s2 s3 s4 s5 hval hks HX HMX HNO
      obtain ⟨k, s, n, key, v, dd⟩ := x
      simp only at s0 s1 s2 s3 s4 s5 hval hks
      have HXX := Lib.hid hx
      have HV := Lib.hid (hval.more hT.out.k.size)
      clear hx hval hints hbb
      have BA := Lib.hid ((Below.refl wr.heap.size wr).alloc (Nat.le_refl _) (.cells #[.int .i64 k, .int .i64 s, .int .i64 n, .string key, .slice Av v.length cv, .bool dd] 31))
      have hKi : K + 1 ≤ es.length := by omega
      go_wp2_with fail
      obtain ⟨W, hW⟩ : ∃ W, W = wr.alloc (.cells #[.int .i64 k, .int .i64 s, .int .i64 n, .string key, .slice Av v.length cv, .bool dd] 31) := ⟨_, rfl⟩
      rw [← hW] at BA ⊢
      have HVW := Lib.hid ((HV.out.below BA.out).more BA.out.size)
      clear hW s0 s1 s2 s3 s4 s5
      refine (encode_any (A := Av) (c := cv) ⟨k, s, n, key, v, dd⟩ HVW.out hks.1 hks.2).mono ?_
      rintro e w1 h
      rcases h with ⟨hm, v', rfl, ho, hb⟩ | ⟨hm, rfl, hb⟩
      · obtain ⟨X, hX⟩ : ∃ X, X = En.enc ⟨k, s, n, key, v, dd⟩ := ⟨_, rfl⟩
        have hXl := En.enc_len hm
        rw [← hX] at ho hXl HX
        obtain ⟨A1, c1, rfl, _, hr1⟩ := BOwns.slice ho
        have R1 := Lib.hid hr1
        have HMX2 := Lib.hid (HMX.out hm)
        have T1 := Lib.hid (hT.out.go (BA.out.trans (hb.mono BA.out.size)))
        clear hm hX ho hr1 hb hT BA HVW HV HMX HNO HXX
        go_wp2_with fail
        refine (make_any (c := c1) R1.out (by omega)).mono ?_
        rintro e w2 ⟨v2, rfl, ho, hb⟩
        obtain ⟨FR, hFR⟩ : ∃ F, F = frameF X := ⟨_, rfl⟩
        have hFl : FR.length ≤ 5009 := by rw [hFR, frameF_len]; omega
        rw [← hFR] at ho HX
        obtain ⟨A2, c2, rfl, _, hr2⟩ := BOwns.slice ho
        have R2 := Lib.hid (show BReads w2.drew w2.drew.heap.size A2 FR from hr2)
        have T2 := Lib.hid (T1.out.go (hb.trans ((Below.refl w2.heap.size w2).drew.mono hb.size)))
        clear hFR ho hr2 hb T1 R1
        obtain ⟨a1, ha1⟩ : ∃ a1 : Ar, a1 = { p.a with A := A', c := c', l := p.a.l ++ framesF (es.take K) } := ⟨_, rfl⟩
        rw [← ha1] at T2
        have hal : a1.l.length ≤ p.a.l.length + 5009 * K := by
          rw [ha1]; show (p.a.l ++ _).length ≤ _; rw [List.length_append]
          have := framesF_len hM.out
          rw [List.length_take] at this
          have : 5009 * min K es.length ≤ 5009 * K := Nat.mul_le_mul_left _ (Nat.min_le_left _ _)
          omega
        have HA1 := Lib.hid ha1
        have hi' := put_get (q := { p with a := a1, done := p.done + K }) HI.out
        have HI2 := Lib.hid hi'
        have y0 : w2.drew.cell? ⟨gl, 0, none⟩ = some (.pointer (some ⟨d.g, 0, none⟩)) := by have := (lg_blk T2.out.p).cell 0; simpa [logCells, Dk.put] using this
        have y1 : w2.drew.cell? ⟨gl, 1, none⟩ = some (.int .i64 i) := by have := (lg_blk T2.out.p).cell 1; simpa [logCells] using this
        have hn' : (d.put i { p with a := a1, done := p.done + K }).ps.length ≤ 16 := by unfold Dk.put; simpa using hn
        have HB2 : a1.l.length + FR.length ≤ 140737488355328 := by
          have : 5009 * (K + 1) ≤ 5009 * es.length := Nat.mul_le_mul_left _ hKi
          omega
        have hdk0 : 0 ≤ p.done + (K : Int) := by omega
        have hdk1 : p.done + (K : Int) ≤ 1000000000000000000 := by omega
        clear ha1 hi' hal
        by_cases hdn : d.armed = true ∧ p.fd ≤ p.done + K
        · have hx := dAppend_down (c := c2) (A := A2) (b := FR) (lg_disk T2.out.p) hn' i HI2.out hdk0 hdk1 hdn.1 hdn.2
          have HXD := Lib.hid hx
          have HDN := Lib.hid hdn
          have HL := Lib.hid (lg_blk T2.out.p).lt
          clear hx hdn hn'
          go_upto_region 12 with fail
          go_region_held3 (fun w' => w'.cell? ⟨gl, 0, none⟩ = some (.pointer (some ⟨d.g, 0, none⟩)) ∧ w'.cell? ⟨gl, 1, none⟩ = some (.int .i64 i)) (first | (with_reducible exact ⟨y0, y1⟩) | (with_reducible exact ⟨z0, z1⟩) | go_keep) ((go_at_call 104; refine HXD.out.mono ?_; rintro e w3 ⟨rfl, hb⟩; have HB3 := Lib.hid hb; have z0 := (hb.cell (p := ⟨gl, 0, none⟩) HL.out).trans y0; have z1 := (hb.cell (p := ⟨gl, 1, none⟩) HL.out).trans y1; clear hb))
          go_wp2
          go_ret
          refine ⟨K, A', c', 80, hK, rfl, hM.out, hD.out, .inr (.inr ⟨rfl, hKN, HDN.out.1, HDN.out.2⟩), ?_⟩
          rw [← HA1.out]
          exact T2.out.go HB3.out
        · have hgo : (d.put i { p with a := a1, done := p.done + K }).armed = true → ({ p with a := a1, done := p.done + K } : Pt).done < p.fd := fun ha => by
            have : ¬ p.fd ≤ p.done + K := fun h => hdn ⟨ha, h⟩
            show p.done + (K : Int) < p.fd
            omega
          have HDX := Lib.hid (show ∀ j : Nat, j < K + 1 → d.armed = true → p.done + j < p.fd from fun j hj ha => by
            rcases (show j < K ∨ j = K from by omega) with h | h
            · exact hD.out j h ha
            · subst h
              have : ¬ p.fd ≤ p.done + j := fun h => hdn ⟨ha, h⟩
              omega)
          have hx := dAppend_any (c := c2) (lg_disk T2.out.p) hn' i HI2.out hdk0 hdk1 hgo R2.out HB2
          have HXD := Lib.hid hx
          clear hx hdn hn' hgo hD hM
          go_upto_region 12 with fail
          go_region_held3 (fun w' => w'.cell? ⟨gl, 0, none⟩ = some (.pointer (some ⟨d.g, 0, none⟩)) ∧ w'.cell? ⟨gl, 1, none⟩ = some (.int .i64 i)) (first | (with_reducible exact ⟨y0, y1⟩) | (with_reducible exact ⟨z0, z1⟩) | go_keep) ((go_at_call 104; refine HXD.out.mono ?_; rintro e w3 ⟨b3, ⟨A3, c3, rfl⟩, hg3, rfl, t3⟩; have T3 := Lib.hid (T2.out.trans (lg_turn T2.out.p t3 rfl)); have z0 : w3.cell? ⟨gl, 0, none⟩ = some (.pointer (some ⟨d.g, 0, none⟩)) := (by have := (lg_blk T3.out.p).cell 0; simpa [logCells, Dk.put] using this); have z1 : w3.cell? ⟨gl, 1, none⟩ = some (.int .i64 i) := (by have := (lg_blk T3.out.p).cell 1; simpa [logCells] using this); clear t3 hg3))
          have HTN := Lib.hid (show Turn (lgItem gl d i) w (lgItem gl (d.put i { p with a := { p.a with A := A3, c := c3, l := p.a.l ++ framesF (es.take (K + 1)) }, done := p.done + (K + 1 : Nat) }) i) w3 from by
            have := T3.out
            rw [put_put] at this
            rw [HX.out, ← List.append_assoc]
            have e : p.done + ((K + 1 : Nat) : Int) = p.done + (K : Int) + 1 := by omega
            rw [e]
            rw [HA1.out] at this
            exact this)
          clear T3 T2 HXD z0 z1 y0 y1
          go_wp2
          exact ⟨⟨K + 1, A3, c3, by go_num, hKi, HMX2, HDX, HTN⟩, by simp [intOf]; omega⟩
      · have HB1 := Lib.hid (BA.out.trans (hb.mono BA.out.size))
        have HNM := Lib.hid (HNO.out hm)
        clear hb hm BA
        go_wp2
        go_ret
        exact ⟨K, A', c', 100, hK, rfl, hM.out, hD.out, .inr (.inl ⟨rfl, HNM.out⟩), hT.out.go HB1.out⟩
    · obtain rfl : K = es.length := by omega
      go_wp2
      go_ret
      exact ⟨es.length, A', c', 0, Nat.le_refl _, rfl, hM.out, hD.out, .inl ⟨rfl, rfl⟩, hT.out⟩
end Go.Proofs.Ytoecgkdipgaaeaa
/- The plain reader: bounds. No program in sight. -/
namespace Go.Proofs.Ytoecgkdipgaaeaa
open Go.RowKit

theorem Rd.take_lt (r : Rd) (n : Nat) : (r.take n).1 < 256 ^ n := by
  unfold Rd.take Rd.step
  by_cases hf : r.f = 0
  · rw [if_pos hf]
    cases h : takeF n (r.l.drop r.at_) with
    | error m => exact Nat.pow_pos (by decide)
    | ok x => exact (takeF_lt h).1
  · rw [if_neg hf]; exact Nat.pow_pos (by decide)

theorem Rd.step_l {α : Type} (r : Rd) (n : α) (x : Except Int (α × Nat)) : (r.step n x).2.l = r.l := by
  unfold Rd.step
  split
  · split <;> rfl
  · rfl
theorem Rd.bytes_len (r : Rd) (m : Int) : (r.bytes m).1.length ≤ r.l.length := by
  unfold Rd.bytes Rd.step
  split
  · cases hb : blockF m (r.l.drop r.at_) with
    | error e => exact Nat.zero_le _
    | ok x =>
      have := (blockF_len hb).1
      rw [List.length_drop] at this
      show x.1.length ≤ _
      omega
  · exact Nat.zero_le _
end Go.Proofs.Ytoecgkdipgaaeaa
/- Reading an entry off its bytes: there and back, in plain words. -/
namespace Go.Proofs.Ytoecgkdipgaaeaa
open Go.RowKit

theorem blockF_most {p post : List UInt8} {most : Int} (hp : (p.length : Int) ≤ most) (hm : p.length ≤ 9223372036854775807) : blockF most (intF p.length ++ p ++ post) = .ok (p, (intF p.length ++ p).length) := by
  unfold blockF
  rw [if_neg (by omega), List.append_assoc, numberF_there (by omega) (by omega) (by omega) (by omega)]
  simp only [List.length_append]
  rw [if_neg (by omega), List.drop_left, Int.toNat_natCast, List.take_left]
theorem rd_take1 {b : List UInt8} {x : UInt8} {r : List UInt8} {at_ : Nat} (h : b.drop at_ = x :: r) : Rd.take ⟨b, at_, 0⟩ 1 = (x.toNat, ⟨b, at_ + 1, 0⟩) := by
  simp only [Rd.take, Rd.step, h, takeF, if_true]
  rw [if_neg (by simp)]
  simp [beVal]
theorem rd_bytes {b p post : List UInt8} {at_ : Nat} {most : Int} (h : b.drop at_ = intF p.length ++ p ++ post) (hp : (p.length : Int) ≤ most) (hm : p.length ≤ 9223372036854775807) : Rd.bytes ⟨b, at_, 0⟩ most = (p, ⟨b, at_ + (intF p.length ++ p).length, 0⟩) := by
  simp only [Rd.bytes, Rd.step, h, blockF_most hp hm, if_true]
theorem rd_int {b post : List UInt8} {at_ : Nat} {low high n : Int} (h : b.drop at_ = intF n ++ post) (h0 : -9223372036854775808 ≤ n) (h1 : n ≤ 9223372036854775807) (hl : low ≤ n) (hh : n ≤ high) : Rd.int ⟨b, at_, 0⟩ low high = (n, ⟨b, at_ + (intF n).length, 0⟩) := by
  simp only [Rd.int, Rd.step, h, numberF_there h0 h1 hl hh, if_true]
theorem drop_more {b x y : List UInt8} {k : Nat} (h : b.drop k = x ++ y) : b.drop (k + x.length) = y := by
  rw [← List.drop_drop, h, List.drop_left]
theorem rd_end {b : List UInt8} {k : Nat} (h : b.drop k = []) (hk : k ≤ b.length) : Rd.end_ ⟨b, k, 0⟩ = 0 := by
  have : b.length ≤ k := by have := congrArg List.length h; rw [List.length_drop, List.length_nil] at this; omega
  unfold Rd.end_ Rd.left
  simp only [if_true]
  rw [if_neg (by omega)]
theorem ba_eta (s : ByteArray) : (⟨s.data.toList.toArray⟩ : ByteArray) = s := by cases s; simp
theorem enc_head {y : En} (hm : y.may) : ∃ r, y.enc = UInt8.ofNat y.kind.toNat :: r := by
  unfold En.enc
  by_cases h1 : y.kind = 1
  · rw [if_pos h1, h1]; exact ⟨_, rfl⟩
  rw [if_neg h1]
  by_cases h2 : y.kind = 2
  · rw [if_pos h2, h2]; exact ⟨_, rfl⟩
  rw [if_neg h2]
  by_cases h5 : y.kind = 5
  · rw [if_pos h5, h5]; exact ⟨_, rfl⟩
  rw [if_neg h5]; exact ⟨_, rfl⟩
theorem enc_kind {y : En} {b : List UInt8} (hm : y.may) (he : y.enc = b) : Rd.take ⟨b, 0, 0⟩ 1 = (y.kind.toNat, ⟨b, 1, 0⟩) := by
  obtain ⟨r, hr⟩ := enc_head hm
  have hb := En.may_bounds hm
  have := rd_take1 (b := b) (at_ := 0) (x := UInt8.ofNat y.kind.toNat) (r := r) (by rw [← he]; exact hr)
  rw [this, UInt8.toNat_ofNat_of_lt' (by show _ < 256; omega)]
theorem dec_x {b : List UInt8} {k : Nat} {r1 : Rd} (h1 : Rd.take ⟨b, 0, 0⟩ 1 = (k, r1)) (hk : ¬ (1 ≤ k ∧ k ≤ 6)) : ¬ ∃ y : En, y.may ∧ y.enc = b := by
  rintro ⟨y, hm, he⟩
  have := enc_kind hm he
  rw [h1] at this
  injection this with e _
  have hb := En.may_bounds hm
  omega
/-- Whatever entry has these bytes, the reading has told it. -/
def Tells (b : List UInt8) (x : En) (r : Rd) : Prop := ∀ y : En, y.may → y.enc = b → y = x ∧ r.end_ = 0
theorem kind_eq {b : List UInt8} {k : Nat} {r1 : Rd} {y : En} (h1 : Rd.take ⟨b, 0, 0⟩ 1 = (k, r1)) (hm : y.may) (he : y.enc = b) : y.kind = (k : Int) ∧ r1 = ⟨b, 1, 0⟩ := by
  have := enc_kind hm he
  rw [h1] at this
  injection this with e1 e2
  have hb := En.may_bounds hm
  exact ⟨by omega, e2⟩
theorem pair_eq {α β : Type} {x : α × β} {a a' : α} {b b' : β} (h1 : x = (a, b)) (h2 : x = (a', b')) : a = a' ∧ b = b' := by
  rw [h1] at h2; injection h2 with e1 e2; exact ⟨e1, e2⟩
theorem dec_1 {b p1 p2 : List UInt8} {r1 r2 r3 : Rd} (h1 : Rd.take ⟨b, 0, 0⟩ 1 = (1, r1)) (h2 : r1.bytes 255 = (p1, r2)) (h3 : r2.bytes 4096 = (p2, r3)) : Tells b ⟨1, 0, 0, ⟨p1.toArray⟩, p2, false⟩ r3 := by
  intro y hm he
  obtain ⟨hk, rfl⟩ := kind_eq h1 hm he
  obtain ⟨k, s, n, key, v, d⟩ := y
  obtain rfl : k = 1 := hk
  rw [may_1] at hm
  obtain ⟨_, hks, rfl, rfl, rfl, hv⟩ := hm
  have e : [1] ++ intF key.size ++ key.data.toList ++ intF v.length ++ v = b := he
  have hkl := str_length key
  have d1 : b.drop 1 = intF key.data.toList.length ++ key.data.toList ++ (intF v.length ++ v) := by rw [hkl, ← e]; simp
  have q2 := rd_bytes (most := 255) d1 (by omega) (by omega)
  obtain ⟨rfl, rfl⟩ := pair_eq h2 q2
  have d2 : b.drop (1 + (intF key.data.toList.length ++ key.data.toList).length) = intF v.length ++ v ++ [] := by rw [drop_more d1, List.append_nil]
  have q3 := rd_bytes (most := 4096) d2 (by omega) (by omega)
  obtain ⟨rfl, rfl⟩ := pair_eq h3 q3
  refine ⟨by rw [ba_eta], rd_end (drop_more d2) ?_⟩
  rw [← e]; simp only [List.length_append, List.length_cons, List.length_nil, hkl]; omega
theorem dec_2 {b p1 : List UInt8} {r1 r2 : Rd} (h1 : Rd.take ⟨b, 0, 0⟩ 1 = (2, r1)) (h2 : r1.bytes 255 = (p1, r2)) : Tells b ⟨2, 0, 0, ⟨p1.toArray⟩, [], false⟩ r2 := by
  intro y hm he
  obtain ⟨hk, rfl⟩ := kind_eq h1 hm he
  obtain ⟨k, s, n, key, v, d⟩ := y
  obtain rfl : k = 2 := hk
  rw [may_2] at hm
  obtain ⟨_, hks, rfl, rfl, rfl, hv⟩ := hm
  obtain rfl := List.eq_nil_of_length_eq_zero hv
  have e : [2] ++ intF key.size ++ key.data.toList = b := he
  have hkl := str_length key
  have d1 : b.drop 1 = intF key.data.toList.length ++ key.data.toList ++ [] := by rw [hkl, ← e]; simp
  have q2 := rd_bytes (most := 255) d1 (by omega) (by omega)
  obtain ⟨rfl, rfl⟩ := pair_eq h2 q2
  refine ⟨by rw [ba_eta], rd_end (drop_more d1) ?_⟩
  rw [← e]; simp only [List.length_append, List.length_cons, List.length_nil, hkl]; omega
theorem dec_m {b : List UInt8} {k : Nat} {s n : Int} {r1 r2 r3 : Rd} (hk : k = 3 ∨ k = 4 ∨ k = 6) (h1 : Rd.take ⟨b, 0, 0⟩ 1 = (k, r1)) (h2 : r1.int 0 4611686018427387904 = (s, r2)) (h3 : r2.int 0 2147483647 = (n, r3)) : Tells b ⟨k, s, n, ⟨#[]⟩, [], false⟩ r3 := by
  intro y hm he
  obtain ⟨hky, rfl⟩ := kind_eq h1 hm he
  obtain ⟨k', s', n', key, v, d⟩ := y
  obtain rfl : k' = (k : Int) := hky
  rw [may_m (by omega)] at hm
  obtain ⟨hkz, _, _, _, _, rfl, hv⟩ := hm
  obtain rfl := List.eq_nil_of_length_eq_zero hv
  obtain rfl := str_empty hkz
  have e : [UInt8.ofNat k] ++ intF s' ++ intF n' = b := by
    rw [← he]
    unfold En.enc
    rw [if_neg (by show ¬ (k : Int) = 1; omega), if_neg (by show ¬ (k : Int) = 2; omega), if_neg (by show ¬ (k : Int) = 5; omega)]
    rfl
  have d1 : b.drop 1 = intF s' ++ intF n' := by rw [← e]; simp
  have q2 := rd_int (low := 0) (high := 4611686018427387904) d1 (by omega) (by omega) (by omega) (by omega)
  obtain ⟨rfl, rfl⟩ := pair_eq h2 q2
  have d2 : b.drop (1 + (intF s).length) = intF n' ++ [] := by rw [drop_more d1, List.append_nil]
  have q3 := rd_int (low := 0) (high := 2147483647) d2 (by omega) (by omega) (by omega) (by omega)
  obtain ⟨rfl, rfl⟩ := pair_eq h3 q3
  refine ⟨rfl, rd_end (drop_more d2) ?_⟩
  rw [← e]; simp only [List.length_append, List.length_cons, List.length_nil]; omega
theorem dec_5 {b p1 p2 : List UInt8} {s : Int} {k : Nat} {r1 r2 r3 r4 r5 : Rd} (h1 : Rd.take ⟨b, 0, 0⟩ 1 = (5, r1)) (h2 : r1.bytes 255 = (p1, r2)) (h3 : r2.int 0 4611686018427387904 = (s, r3)) (h4 : r3.take 1 = (k, r4)) (h5 : r4.bytes 4096 = (p2, r5)) :
    Tells b ⟨5, s, 0, ⟨p1.toArray⟩, p2, decide (k = 1)⟩ r5 := by
  intro y hm he
  obtain ⟨hky, rfl⟩ := kind_eq h1 hm he
  obtain ⟨k', s', n', key, v, d⟩ := y
  obtain rfl : k' = 5 := hky
  rw [may_5] at hm
  obtain ⟨_, hks, _, _, rfl, hv, _⟩ := hm
  have e : [5] ++ intF key.size ++ key.data.toList ++ intF s' ++ [if d then 1 else 0] ++ intF v.length ++ v = b := he
  have hkl := str_length key
  have d1 : b.drop 1 = intF key.data.toList.length ++ key.data.toList ++ (intF s' ++ ((if d then (1 : UInt8) else 0) :: (intF v.length ++ v))) := by rw [hkl, ← e]; simp
  have q2 := rd_bytes (most := 255) d1 (by omega) (by omega)
  obtain ⟨rfl, rfl⟩ := pair_eq h2 q2
  have d2 := drop_more d1
  have q3 := rd_int (low := 0) (high := 4611686018427387904) d2 (by omega) (by omega) (by omega) (by omega)
  obtain ⟨rfl, rfl⟩ := pair_eq h3 q3
  have d3 := drop_more d2
  have q4 := rd_take1 d3
  obtain ⟨rfl, rfl⟩ := pair_eq h4 q4
  have d4 : b.drop (1 + (intF key.data.toList.length ++ key.data.toList).length + (intF s).length + 1) = intF v.length ++ v ++ [] := by
    have := drop_more (x := [if d then (1 : UInt8) else 0]) (y := intF v.length ++ v) (k := 1 + (intF key.data.toList.length ++ key.data.toList).length + (intF s).length) (b := b) (by rw [d3]; rfl)
    rw [List.append_nil]; exact this
  have q5 := rd_bytes (most := 4096) d4 (by omega) (by omega)
  obtain ⟨rfl, rfl⟩ := pair_eq h5 q5
  refine ⟨by rw [ba_eta]; cases d <;> rfl, rd_end (drop_more d4) ?_⟩
  rw [← e]; simp only [List.length_append, List.length_cons, List.length_nil, hkl]; omega
/-- What Decode answers: the entry whose bytes these are, its value in new memory; or the error. -/
def DecPost (w : World) (b : List UInt8) (e : Ending) (w' : World) : Prop :=
  (∃ x : En, x.may ∧ x.enc = b ∧ ∃ A c, e = .returned (.tuple #[.agg (x.cells A c), .int .i64 0]) ∧ BOwns w' w.heap.size (.slice A x.value.length c) x.value ∧ Below w.heap.size w w') ∨
    ((¬ ∃ y : En, y.may ∧ y.enc = b) ∧ e = .returned (.tuple #[.agg (En.cells ⟨0, 0, 0, ⟨#[]⟩, [], false⟩ none 0), .int .i64 100]) ∧ Below w.heap.size w w')
theorem Tells.no {b : List UInt8} {x : En} {r : Rd} (h : Tells b x r) (hn : ¬ (x.may ∧ x.enc = b ∧ r.end_ = 0)) : ¬ ∃ y : En, y.may ∧ y.enc = b := by
  rintro ⟨y, hm, he⟩
  obtain ⟨rfl, h2⟩ := h y hm he
  exact hn ⟨hm, he, h2⟩
theorem enc_inj {x y : En} (hx : x.may) (hy : y.may) (h : x.enc = y.enc) : x = y := by
  have hb := En.may_bounds hy
  have ht := enc_kind hy rfl
  have hbx := En.may_bounds hx
  generalize hb' : y.enc = b at *
  rcases (show y.kind.toNat = 1 ∨ y.kind.toNat = 2 ∨ (y.kind.toNat = 3 ∨ y.kind.toNat = 4 ∨ y.kind.toNat = 6) ∨ y.kind.toNat = 5 from by omega) with hk | hk | hk | hk
  · rw [hk] at ht
    have := dec_1 ht (show Rd.bytes ⟨b, 1, 0⟩ 255 = (_, _) from rfl) (show Rd.bytes _ 4096 = (_, _) from rfl)
    exact (this x hx h).1.trans (this y hy hb').1.symm
  · rw [hk] at ht
    have := dec_2 ht (show Rd.bytes ⟨b, 1, 0⟩ 255 = (_, _) from rfl)
    exact (this x hx h).1.trans (this y hy hb').1.symm
  · have := dec_m hk ht (show Rd.int ⟨b, 1, 0⟩ 0 4611686018427387904 = (_, _) from rfl) (show Rd.int _ 0 2147483647 = (_, _) from rfl)
    exact (this x hx h).1.trans (this y hy hb').1.symm
  · rw [hk] at ht
    have := dec_5 ht (show Rd.bytes ⟨b, 1, 0⟩ 255 = (_, _) from rfl) (show Rd.int _ 0 4611686018427387904 = (_, _) from rfl) (show Rd.take _ 1 = (_, _) from rfl) (show Rd.bytes _ 4096 = (_, _) from rfl)
    exact (this x hx h).1.trans (this y hy hb').1.symm
end Go.Proofs.Ytoecgkdipgaaeaa
/- What a log tells of bytes: the plain law. -/
namespace Go.Proofs.Ytoecgkdipgaaeaa
open Go.RowKit

theorem beVal_of (k v : Nat) (h : v < 256 ^ k) : beVal (beN k v) = v := by
  have := beVal_beN k v h 0
  unfold beVal
  simpa using this
theorem beN_len4 (v : Nat) : (beN 4 v).length = 4 := by simp [beN]
theorem readF_frame {p z : List UInt8} (hp : p.length ≤ 65536) : readF (frameF p ++ z) = .ok (p, p.length + 9) := by
  have hl := frameF_len p
  have hh := headF_len p
  have e : frameF p ++ z = 197 :: (beN 4 p.length ++ (p ++ (beN 4 (sumF (headF p)) ++ z))) := by unfold frameF headF; simp
  have hn : numF (frameF p ++ z) = p.length := by
    unfold numF
    rw [e, List.drop_succ_cons, List.drop_zero, List.take_left' (beN_len4 _)]
    exact beVal_of 4 _ (by omega)
  have h5 : (frameF p ++ z).take (5 + p.length) = headF p := by unfold frameF; rw [List.append_assoc, List.take_left' (by omega)]
  have h6 : (frameF p ++ z).drop (5 + p.length) = beN 4 (sumF (headF p)) ++ z := by unfold frameF; rw [List.append_assoc, List.drop_left' (by omega)]
  have h7 : (frameF p ++ z).drop 5 = p ++ (beN 4 (sumF (headF p)) ++ z) := by
    have : frameF p ++ z = ([197] ++ beN 4 p.length) ++ (p ++ (beN 4 (sumF (headF p)) ++ z)) := by unfold frameF headF; simp
    rw [this, List.drop_left' (by rw [List.length_append, beN_len4]; rfl)]
  unfold readF
  rw [hn, h5, h6, h7, List.take_left' (beN_len4 _), List.take_left' rfl, beVal_of 4 _ (by have := sumF_lt (headF p); omega)]
  rw [if_neg (by rw [List.length_append]; omega), if_neg (by rw [e]; simp), if_neg (by rw [List.length_append]; omega), if_neg (by omega), if_neg (by rw [List.length_append]; omega), if_neg (by simp)]
  rw [show 5 + p.length + 4 = p.length + 9 from by omega]
open Classical in
/-- The entries told of frames, each with its end: up to the first that is no entry's. -/
noncomputable def tellL : List (Nat × List UInt8) → List (En × Nat)
  | [] => []
  | (t, p) :: r => if h : ∃ y : En, y.may ∧ y.enc = p then (h.choose, t) :: tellL r else []
theorem tellL_ok {t : Nat} {x : En} (hm : x.may) (r : List (Nat × List UInt8)) : tellL ((t, x.enc) :: r) = (x, t) :: tellL r := by
  have h : ∃ y : En, y.may ∧ y.enc = x.enc := ⟨x, hm, rfl⟩
  rw [tellL, dif_pos h, enc_inj h.choose_spec.1 hm h.choose_spec.2]
theorem tellL_no {t : Nat} {p : List UInt8} (h : ¬ ∃ y : En, y.may ∧ y.enc = p) (r : List (Nat × List UInt8)) : tellL ((t, p) :: r) = [] := by rw [tellL, dif_neg h]
/-- What a log tells of the bytes of its area. -/
noncomputable def tellF (b : List UInt8) : List (En × Nat) := tellL (allF b (b.length + 1) 0)
/-- Entries laid one behind the other, each with its end. -/
def endsF : Nat → List En → List (En × Nat)
  | _, [] => []
  | t, e :: r => (e, t + (e.enc.length + 9)) :: endsF (t + (e.enc.length + 9)) r
theorem allF_step {b z p : List UInt8} {t k : Nat} (hb : b.drop t = frameF p ++ z) (hp : p.length ≤ 65536) : allF b (k + 1) t = (t + (p.length + 9), p) :: allF b k (t + (p.length + 9)) := by
  rw [allF, hb, readF_frame hp]
theorem tell_frames : ∀ (es : List En), (∀ e ∈ es, e.may) → ∀ (b z : List UInt8) (t k : Nat), b.drop t = framesF es ++ z →
    tellL (allF b (k + es.length) t) = endsF t es ++ tellL (allF b k (t + (framesF es).length)) := by
  intro es
  induction es with
  | nil => intro _ b z t k _; simp [endsF, framesF]
  | cons e r ih =>
    intro hm b z t k hb
    have he : framesF (e :: r) = frameF e.enc ++ framesF r := rfl
    have hle := En.enc_len (hm e (List.mem_cons_self ..))
    rw [he, List.append_assoc] at hb
    rw [show k + (e :: r).length = (k + r.length) + 1 from by rw [List.length_cons]; omega, allF_step hb (by omega), tellL_ok (hm e (List.mem_cons_self ..)), endsF]
    have hb2 : b.drop (t + (e.enc.length + 9)) = framesF r ++ z := by
      rw [← List.drop_drop, hb, ← frameF_len, List.drop_left' rfl]
    rw [ih (fun x hx => hm x (List.mem_cons_of_mem _ hx)) b z _ k hb2, he, List.length_append, frameF_len, Nat.add_assoc]
    rfl
end Go.Proofs.Ytoecgkdipgaaeaa
/- Log.Entries: what is told so far. -/
namespace Go.Proofs.Ytoecgkdipgaaeaa
open Go.RowKit

theorem tellL_stop {t : Nat} {p : List UInt8} (h : ¬ ∃ y : En, y.may ∧ y.enc = p) (r : List (Nat × List UInt8)) : ∀ (A : List (Nat × List UInt8)), (tellL A).length = A.length → tellL (A ++ (t, p) :: r) = tellL A := by
  intro A
  induction A with
  | nil => intro _; rw [List.nil_append, tellL_no h]; rfl
  | cons a A ih =>
    intro hl
    obtain ⟨s, q⟩ := a
    by_cases hq : ∃ y : En, y.may ∧ y.enc = q
    · obtain ⟨y, hm, rfl⟩ := hq
      rw [tellL_ok hm] at hl ⊢
      rw [List.cons_append, tellL_ok hm, ih (by simpa using hl)]
    · rw [tellL_no hq] at hl; simp at hl
theorem tellL_snoc {t : Nat} {x : En} (hm : x.may) : ∀ (A : List (Nat × List UInt8)), (tellL A).length = A.length → tellL (A ++ [(t, x.enc)]) = tellL A ++ [(x, t)] := by
  intro A
  induction A with
  | nil => intro _; rw [List.nil_append, tellL_ok hm]; rfl
  | cons a A ih =>
    intro hl
    obtain ⟨s, q⟩ := a
    by_cases hq : ∃ y : En, y.may ∧ y.enc = q
    · obtain ⟨y, hm', rfl⟩ := hq
      rw [tellL_ok hm'] at hl ⊢
      rw [List.cons_append, tellL_ok hm', ih (by simpa using hl), List.cons_append]
    · rw [tellL_no hq] at hl; simp at hl
/-- An entry that is told: where its value lies. -/
structure Told where
  x : En
  A : Option Addr
  c : Nat
def toldCells (ts : List Told) : List Value := ts.flatMap fun t => (t.x.cells t.A t.c).toList
def toldRows (ts : List Told) : List Item := ts.map fun t => Item.row (.slice t.A t.x.value.length t.c) t.x.value
def endsV (base : Int) (es : List Nat) : List Value := es.map fun e : Nat => Value.int .i64 (base + (e : Int))
/-- A function that holds a range over a function returns. -/
theorem marks_ret {F : Fence} {n : Nat} {P : Program} {fn : Func} {R : Ending → World → Prop} {a : Act} {w : World} {v : Value} {D : Nat} (hd : a.defers = [{ target := .collected D, args := #[] }]) (hD : w.heap[D]? = some (.deferred (some [])))
    (hr : ∀ w', (results fn a.tmps).run P w' = .ok v w') (hR : R (.returned v) (w.putObj D (.deferred none))) : bodyPostM F n P fn R .ret a w := by
  show LeavesInM F n P fn a.tmps R a.defers .returning w
  rw [hd]
  exact ⟨by simp, .inl ⟨_, _, rfl, run_takeDeferred hD, v, hr _, hR⟩⟩
theorem tellL_len {ts : List En} {A : List (Nat × List UInt8)} {es : List Nat} (h : tellL A = ts.zip es) (h1 : ts.length = A.length) (h2 : es.length = A.length) : (tellL A).length = A.length := by
  rw [h, List.length_zip]; omega
theorem toldCells_snoc (ts : List Told) (t : Told) : toldCells (ts ++ [t]) = toldCells ts ++ (t.x.cells t.A t.c).toList := by simp [toldCells]
theorem endsV_snoc (b : Int) (es : List Nat) (e : Nat) : endsV b (es ++ [e]) = endsV b es ++ [.int .i64 (b + (e : Int))] := by simp [endsV]
theorem toldRows_snoc (ts : List Told) (t : Told) : toldRows (ts ++ [t]) = toldRows ts ++ [Item.row (.slice t.A t.x.value.length t.c) t.x.value] := by simp [toldRows]
def gotFrame (a : Act) (x : Got) : Act := { tmps := (((a.tmps.setIfInBounds 41 (.int .i64 x.at_)).setIfInBounds 42 (.slice x.A x.p.length x.c)).setIfInBounds 11 (.int .i64 x.at_)).setIfInBounds 12 (.slice x.A x.p.length x.c), defers := [] }
theorem range_got {F : Fence} {n : Nat} {P : Program} {g : Operand} {assign body : Code} {Q : Exit → Act → World → Prop} {a : Act} {w : World} (hro : F.round = none) (h1 : 1 ≤ n) {gf : Nat} {lb : Array Value} (hg : a.eval g = .func (.func gf) #[] lb) (hF : F.fn gf) (eg : ∀ args w, (callFunc gf args).run P w = .ok (.enter gf args) w)
    {Kp : World → World → Prop} {S Sp : List Got → Prop} {b : List UInt8} (hseq : SeqRd F (n - 1) P gf lb Got.encs Kp (Got.rdP b) S Sp w)
    (hKt : ∀ {A B C : World}, Kp A B → Kp B C → Kp A C) (hKb : ∀ (W : World) (l : Nat) (o o' : Obj), w.heap.size ≤ l → W.heap[l]? = some o → o.isCells = false → o.isWalk = false → Kp W (W.putObj l o'))
    (I : List Got → World → Prop) (Ix : Code → List Got → World → Prop) (hI : Go.OwnFrom w.heap.size I) (hIx : ∀ c, Go.OwnFrom w.heap.size (Ix c)) (h0 : I [] w)
    (hassign : ∀ (l : Nat) (x : Got) (W : World) (K : Act → World → Prop), K (gotFrame a x) W →
      assign.wpIn (F.inRound l) (n - 1 - 1) P (Exit.then K (fun _ _ _ => False)) { tmps := (a.tmps.setIfInBounds 41 (.int .i64 x.at_)).setIfInBounds 42 (.slice x.A x.p.length x.c), defers := [] } W)
    (hbody : ∀ (l : Nat) (pre : List Got) (x : Got) (W : World), I pre W → Got.rdP b pre x W → body.wpIn (F.inRound l) (n - 1 - 1) P (ownPostG w.heap.size Kp I Ix (pre ++ [x]) W) (gotFrame a x) W)
    (hdone : ∀ (D : Nat) (xs : List Got) (W : World), w.heap.size ≤ D → S xs → I xs W → W.heap[D]? = some (.deferred (some [])) → Q .normal { a with defers := { target := .collected D, args := #[] } :: a.defers } W)
    (hstop : ∀ (D : Nat) (c : Code) (pre : List Got) (W : World), w.heap.size ≤ D → Sp pre → Ix c pre W → W.heap[D]? = some (.deferred (some [])) → c.wpIn F n P Q { a with defers := { target := .collected D, args := #[] } :: a.defers } W) :
    (Code.rangeFunc g #[41, 42] assign body).wpIn F n P Q a w :=
  range_rd hro h1 hg hF eg hseq hKt hKb (Got.rdP_own _ _) (Below.refl _ _) (fun _ => rfl) I Ix hI hIx h0 (gotFrame a) (fun l x W K hK => by have h := hassign l x W K hK; simpa [Got.encs] using h) hbody hdone hstop
end Go.Proofs.Ytoecgkdipgaaeaa
