/- Laws of layer 20: a log that is not there, and a start that may not be: the law's walk. -/
import Derived.Test.YtmnpchncmbnddaaGreatG21
import Derived.Test.YtmnpchncmbnddaaGreatRebL1
set_option linter.all false
set_option linter.unusedVariables false
set_option linter.unusedSimpArgs false
set_option linter.unnecessarySimpa false
namespace Go.Proofs.YtmnpchncmbnddaaGreat
open Go.RowKit

/-- A log of a disk that was opened. -/
theorem lg_of {w w1 w2 : World} {gl g gp : Nat} {ar : Bool} {p : Pt} (T : Turn (Item.all []) w (Dk.item ⟨g, gp, ar, [p]⟩) w1) (hg : w1.heap.size ≤ gl) (hk : Blk w2 gl 151 (logCells ⟨g, gp, ar, [p]⟩ 0)) (hb : Below w1.heap.size w1 w2) : Turn (Item.all []) w (Item.all [lg gl g gp ar p]) w2 := by
  have t1 := (T.one).more (y := Item.blk gl 151 (logCells ⟨g, gp, ar, [p]⟩ 0)) hb hk (fun k hk => by have : k = gl := hk; omega)
  exact Turn.one t1
set_option maxRecDepth 100000 in
set_option maxHeartbeats 12800000 in
theorem rebuildNone_walk {w : World} (start : Int) (hn0 : IntKind.min .i64 ≤ start) (hn1 : start ≤ IntKind.max .i64) :
    Calls Tryz.prog 7 #[.int .i64 start] w (True_ w) := by
  clear hn0 hn1
  go_enter Tryz.func7, Tryz.ntmps7
  go_wp2_with fail
  refine rebuild_nil.mono ?_
  rintro e w1 ⟨rfl, hb⟩
  have B1 := Lib.hid hb
  clear hb
  go_wp2_with fail
  refine rebuildFixed_any.mono ?_
  rintro e w2 ⟨rfl, hb⟩
  have B2 := Lib.hid (B1.out.trans (hb.mono B1.out.size))
  clear hb B1
  go_wp2_with fail
  refine (dNew_any (w := w2) 1 (by decide) (by decide)).mono ?_
  rintro e w3 ⟨⟨g, gp, ar, ps⟩, har, hpl, hps, rfl, t⟩
  obtain ⟨p, rfl⟩ : ∃ p, ps = [p] := List.length_eq_one_iff.1 hpl
  obtain ⟨a, rfl⟩ : ∃ a, p = freshPt a := ⟨_, hps p (List.mem_singleton_self _)⟩
  have har' : ar = false := har
  subst har'
  have T3 := Lib.hid t
  clear hpl hps t har
  simp only
  go_wp2_with fail
  refine (lOpen_any (d := ⟨g, gp, false, [freshPt a]⟩) T3.out.p (by simp) 0 rfl (by simp [freshPt]) (by simp [freshPt]) (by simp [freshPt]) (by simp [freshPt])).mono ?_
  rintro e w4 ⟨gl, hgl, rfl, hk, hb⟩
  have T4 := Lib.hid (lg_of T3.out hgl hk hb)
  have B4 := Lib.hid (B2.out.trans (T4.out.free.mono B2.out.size))
  clear hgl hk hb
  by_cases hst : start < 0 ∨ 4611686018427387904 < start
  · have HA := Lib.hid (rebuild_arg (w := w4) (g := gl) hst)
    have HS := Lib.hid hst
    go_wp2_with fail
    refine HA.out.mono ?_
    rintro e w5 ⟨rfl, hb⟩
    have T5 := Lib.hid (T4.out.go hb)
    have B5 := Lib.hid (B4.out.trans (hb.mono B4.out.size))
    have HD := Lib.hid (dDone_any (w := w5) (d := ⟨g, gp, false, [freshPt a]⟩) (lg_disk (T5.out.get (i := 0) rfl)) (by simp) 0 rfl)
    clear hb HA T4 T3 B2
    by_cases h0 : start < 0
    · have d0 : decide (start < 0) = true := decide_eq_true h0
      clear h0 hst
      go_wp2_with fail
      refine HD.out.mono ?_
      rintro e w6 ⟨rfl, hw⟩
      subst hw
      have HR := Lib.hid (show True_ w (.returned (.bool true)) _ from ⟨rfl, B5.out⟩)
      go_wp2
      go_ret
      exact HR.out
    · have d0 : decide (start < 0) = false := decide_eq_false h0
      have d1 : decide (4611686018427387904 < start) = true := decide_eq_true (by omega)
      clear h0 hst
      go_wp2_with fail
      refine HD.out.mono ?_
      rintro e w6 ⟨rfl, hw⟩
      subst hw
      have HR := Lib.hid (show True_ w (.returned (.bool true)) _ from ⟨rfl, B5.out⟩)
      go_wp2
      go_ret
      exact HR.out
  · have d0 : decide (start < 0) = false := decide_eq_false (by omega)
    have d1 : decide (4611686018427387904 < start) = false := decide_eq_false (by omega)
    have HA := Lib.hid (rebuild_any (w := w4) (es := []) (z := []) (start := start) (T4.out.get (i := 0) rfl) (by simp [freshPt]) (by simp [freshPt]) (by simp [freshPt]) (by simp [freshPt]) (by simp [freshPt]) (by simp [freshPt]) (by omega) (by omega) rfl (fun _ h => by cases h) (tellF_frames (es := []) (fun _ h => by cases h)))
    clear hst T3
    go_wp2_with fail
    refine HA.out.mono ?_
    rintro e w5 ⟨S, now, n, hg, ⟨_, s, rfl, hok, hv, t⟩ | ⟨hk, _⟩⟩
    rotate_left
    · exact absurd hk (Nat.not_lt_zero _)
    obtain ⟨rfl, rfl, rfl⟩ := hg.one GrpEnd.nil
    have T5 := Lib.hid ((T4.out.sameR same_one).trans t)
    have HK := Lib.hid (And.intro hok hv)
    have B5 := Lib.hid (B2.out.trans (T5.out.free.mono B2.out.size))
    have HV := Lib.hid (rbVers_any (w := w5) (top := now) (T5.out.get (i := 1) rfl) HK.out.1 (by rw [HK.out.2]; exact PsOk.nil) (by decide) (by rw [HK.out.2]; decide))
    rw [HK.out.2] at HV
    clear hg hok hv t HA
    go_wp2_with fail
    refine HV.out.mono ?_
    rintro e w6 ⟨A6, c6, rfl, _, hb⟩
    have HR := Lib.hid (show True_ w (.returned (.bool true)) w6 from ⟨rfl, B5.out.trans (hb.mono B5.out.size)⟩)
    clear hb
    go_wp2
    go_ret
    exact HR.out
end Go.Proofs.YtmnpchncmbnddaaGreat

