/- WalStruck: the walk (printed by a program of this claim's own). -/
import Derived.Test.YtmnpchncmbnddaaGreatG13
import Derived.Test.YtmnpchncmbnddaaGreatG23
import Derived.Test.YtmnpchncmbnddaaGreatWalL3
set_option linter.all false
set_option linter.unusedVariables false
set_option linter.unusedSimpArgs false
set_option linter.unnecessarySimpa false
namespace Go.Proofs.YtmnpchncmbnddaaGreat
open Go.RowKit

/-- A log alone on its disk, whose power is to go. -/
theorem ft_blk {w : World} {B g : Nat} {a b c : Int} (h : Blk w g 76 #[.int .i64 a, .int .i64 b, .int .u8 c]) (hB : g < B) (ha : (Lit.int .i64 a).wf = true) (hb : (Lit.int .i64 b).wf = true) (hc : (Lit.int .u8 c).wf = true) : kFt.Sl w B (some ⟨g, 0, none⟩) [⟨a, b, c⟩] := by
  intro _
  refine ⟨g, 0, rfl, hB, fun j x hx => ?_⟩
  have hj : j < 1 := (List.getElem?_eq_some_iff.1 hx).1
  obtain rfl : j = 0 := by omega
  simp only [List.getElem?_cons_zero, Option.some.injEq] at hx
  subst hx
  refine ⟨[.int .i64 a, .int .i64 b, .int .u8 c], ⟨[_], _, rfl, ⟨rfl, ha⟩, [_], _, rfl, ⟨rfl, hb⟩, ⟨rfl, hc⟩⟩, fun t u hu => ?_⟩
  have := h.cell t
  rw [show 0 + 0 * kFt.size + t = t from by omega, this, ← hu, List.getElem?_toArray]
theorem ft_open {w : World} {B : Nat} {t : Ft} {cs : Array Value} (h : kFt.R w B t (Value.agg cs).cells.toList) : cs = #[.int .i64 t.done, .int .i64 t.keep, .int .u8 t.torn] ∧ (Lit.int .i64 t.done).wf = true ∧ (Lit.int .i64 t.keep).wf = true ∧ (Lit.int .u8 t.torn).wf = true := by
  obtain ⟨d1, d2, e1, ⟨rfl, hk⟩, d3, d4, rfl, ⟨rfl, hs⟩, ⟨rfl, hn⟩⟩ := h
  exact ⟨Array.ext' e1, hk, hs, hn⟩
theorem arm_lg {w0 w : World} {gl g gp : Nat} {ar : Bool} {p : Pt} {rest : List Item} {a b c : Int} (T : Turn (Item.all []) w0 (Item.all (lg gl g gp ar p :: rest)) w) (ha : (Lit.int .i64 a).wf = true) (hb : (Lit.int .i64 b).wf = true) (hc : (Lit.int .u8 c).wf = true) :
    Calls Tryz.prog 35 #[.pointer (some ⟨g, 0, none⟩), .slice (some ⟨w.heap.size, 0, none⟩) 1 1] (w.alloc (.cells #[.int .i64 a, .int .i64 b, .int .u8 c] 76)) fun e w' => e = .returned (.tuple #[]) ∧
      Turn (Item.all []) w0 (Item.all (lg gl g gp true { p with fd := a, fk := b, ft := c, done := 0 } :: rest)) w' := by
  have B1 := (Below.refl w.heap.size w).alloc (Nat.le_refl _) (.cells #[.int .i64 a, .int .i64 b, .int .u8 c] 76)
  have T1 := T.go B1
  have hlg := T1.get (i := 0) rfl
  have K := Blk.new w 76 #[.int .i64 a, .int .i64 b, .int .u8 c]
  have hS : Stays (Dk.item ⟨g, gp, ar, [p]⟩).own (w.alloc (.cells #[.int .i64 a, .int .i64 b, .int .u8 c] 76)) (fun w' => kFt.Sl w' (w.alloc (.cells #[.int .i64 a, .int .i64 b, .int .u8 c] 76)).heap.size (some ⟨w.heap.size, 0, none⟩) [⟨a, b, c⟩]) := fun w' hk => by
    refine ft_blk ((hk w.heap.size K.lt fun ho => ?_).trans K) K.lt ha hb hc
    have h1 := Item.lt _ (lg_disk (T.get (i := 0) rfl)) ho
    omega
  refine (arm_call (d := ⟨g, gp, ar, [p]⟩) (A := some ⟨w.heap.size, 0, none⟩) (c := 1) (fs := [⟨a, b, c⟩]) (lg_disk hlg) (by simp) hS (by simp)).mono ?_
  rintro e w' ⟨rfl, t⟩
  refine ⟨rfl, ?_⟩
  have t2 := lg_turn (i := 0) hlg t rfl
  exact T1.step (i := 0) rfl t2
theorem strike_lg {w0 w : World} {gl g gp : Nat} {p : Pt} {rest : List Item} (T : Turn (Item.all []) w0 (Item.all (lg gl g gp true p :: rest)) w) (hs : p.a.safe ≤ p.a.l.length) (hl : p.a.l.length ≤ 140737488355328) (hf0 : 0 ≤ p.ft) (hf1 : p.ft < 256) :
    Calls Tryz.prog 36 #[.pointer (some ⟨g, 0, none⟩)] w fun e w' => e = .returned (.tuple #[]) ∧
      Turn (Item.all []) w0 (Item.all (lg gl g gp false { p with a := p.a.crash p.fk (ftB p.ft), fd := 0, fk := 0, ft := 0, done := 0 } :: rest)) w' := by
  refine (strike_any (d := ⟨g, gp, true, [p]⟩) (lg_disk (T.get (i := 0) rfl)) (by simp) (fun q hq => by simp only [List.mem_cons, List.not_mem_nil, or_false] at hq; subst hq; exact ⟨hs, hl, hf0, hf1⟩)).mono ?_
  rintro e w' ⟨rfl, t⟩
  exact ⟨rfl, T.step (i := 0) rfl (lg_turn (i := 0) (T.get (i := 0) rfl) t rfl)⟩
section
variable {w : World} {gl g gp : Nat} {p : Pt} {A : Option Addr} {c : Nat} {es : List En}
end
end Go.Proofs.YtmnpchncmbnddaaGreat

