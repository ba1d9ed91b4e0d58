/- slices.Equal of bytes, by its contract. -/
import Derived.Test.YtnnladfndmdapaaBase
import Derived.Deep.QuietTactic
import Derived.BigQuiet
namespace Go.Proofs.Ytnnladfndmdapaa
open Go.RowKit

/-- The call answers the bool b and turns no memory. -/
def SaysB (w : World) (b : Bool) (e : Ending) (w' : World) : Prop := e = .returned (.bool b) ∧ ∃ m, w' = w.drewN m
theorem SaysB.out {w w' : World} {b : Bool} {e : Ending} (h : SaysB w b e w') : e = .returned (.bool b) ∧ ∃ m, w' = w.drewN m := h

theorem take_succ_eq {a b : List UInt8} {k : Nat} (ha : k < a.length) (hb : k < b.length) (h : a.take k = b.take k) (hx : a[k] = b[k]) : a.take (k + 1) = b.take (k + 1) := by
  rw [List.take_succ_eq_append_getElem ha, List.take_succ_eq_append_getElem hb, h, hx]

theorem equal_any {w : World} {B B' c c' : Nat} {A A' : Option Addr} {a b : List UInt8} (ha : BReads w B A a) (hb : BReads w B' A' b) (hl : a.length ≤ 140737488355328) :
    Calls Try.prog 44 #[.slice A a.length c, .slice A' b.length c'] w (SaysB w (decide (a = b))) := by
  by_cases hne : a.length = b.length
  · have HN := Lib.hid hne
    have h0 : ((a.length : Int) != (b.length : Int)) = false := by rw [hne]; simp
    clear hne
    go_enter Try.func44, Try.ntmps44
    go_wp2
    go_loopw [13] (fun i wr => ∃ (k m : Nat), i = .int .i64 k ∧ k ≤ a.length ∧ Hid (a.take k = b.take k) ∧ Hid (wr = w.drewN m)) (fun i _ => a.length - (intOf i).toNat)
    case atStart => exact ⟨0, 0, rfl, Nat.zero_le _, Lib.hid rfl, Lib.hid rfl⟩
    case round =>
      obtain ⟨k, m, rfl, hk, ht, hw⟩ := hrel
      have hw0 := hw.out
      subst hw0
      by_cases hlt : k < a.length
      · have hltb : k < b.length := by have := HN.out; omega
        obtain ⟨b1, o1, rfl, _, c1⟩ := ha.at_ hlt
        obtain ⟨b2, o2, rfl, _, c2⟩ := hb.at_ hltb
        have hi0 : 0 ≤ (k : Int) := by omega
        have hi1 : (k : Int) < (a.length : Int) := by omega
        have hi2 : (k : Int) < (b.length : Int) := by omega
        by_cases hx : a[k] = b[k]
        · have hv : ((a[k].toNat : Int) != (b[k].toNat : Int)) = false := by rw [hx]; simp
          have HX := Lib.hid hx
          clear hx
          go_wp2
          go_quiet (fail)
          go_wp2
          go_roundw
          case rel => exact ⟨k + 1, _, by go_num, by omega, Lib.hid (take_succ_eq hlt hltb ht.out HX.out), Lib.hid rfl⟩
          case measure => simp [intOf]; omega
        · have hv : ((a[k].toNat : Int) != (b[k].toNat : Int)) = true := by
            rw [bne_iff_ne]; intro e; exact hx (UInt8.toNat_inj.1 (by omega))
          have HX := Lib.hid hx
          clear hx
          go_wp2
          go_quiet (fail)
          go_wp2
          go_ret
          exact ⟨congrArg (fun b => Ending.returned (.bool b)) (decide_eq_false (fun e => HX.out (by simp only [e]))).symm, _, World.drewN_drewN ..⟩
      · go_wp2
        go_ret
        have hk0 : k = a.length := by omega
        have := ht.out
        rw [hk0, List.take_length] at this
        exact ⟨congrArg (fun b => Ending.returned (.bool b)) (decide_eq_true (this.trans (by rw [HN.out, List.take_length]))).symm, _, rfl⟩
  · have h0 : ((a.length : Int) != (b.length : Int)) = true := by rw [bne_iff_ne]; omega
    have HN := Lib.hid hne
    clear hne
    go_enter Try.func44, Try.ntmps44
    go_wp2
    go_ret
    exact ⟨congrArg (fun b => Ending.returned (.bool b)) (decide_eq_false (fun e => HN.out (by rw [e]))).symm, 0, rfl⟩
end Go.Proofs.Ytnnladfndmdapaa
