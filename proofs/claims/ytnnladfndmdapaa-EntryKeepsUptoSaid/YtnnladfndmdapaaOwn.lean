/- Bytes that the call owns, written one by one. -/
import Derived.Test.YtnnladfndmdapaaRdr8
namespace Go.Proofs.Ytnnladfndmdapaa
open Go.RowKit

/-- The block of bytes that the call owns. -/
theorem BOwns.block {w : World} {base n c : Nat} {A : Option Addr} {l : List UInt8} (h : BOwns w base (.slice A n c) l) (hp : 0 < l.length) :
    ∃ g, A = some ⟨g, 0, none⟩ ∧ base ≤ g ∧ g < w.heap.size ∧ (∀ i, w.frozen? ⟨g, i, none⟩ = false) ∧ ∀ i, (hi : i < l.length) → w.cell? ⟨g, i, none⟩ = some (.int .u8 (l[i].toNat : Int)) := by
  rcases h.2 with ⟨_, h2⟩ | ⟨g, cap, cur, hv, hg, hh, r⟩
  · omega
  · injection hv with e1 _ _
    subst e1
    have hb : Blk w g 5 cur := hh
    obtain ⟨A', c', e, _, hr⟩ := BOwns.slice h
    injection e with e2 _ _
    subst e2
    refine ⟨g, rfl, hg, hb.lt, fun i => hb.frozen i, fun i hi => ?_⟩
    obtain ⟨b, off, e3, _, hc⟩ := BReads.at_ hr hi
    injection e3 with e3
    injection e3 with e4 e5
    subst e4; subst e5
    rw [Nat.zero_add] at hc
    exact hc
theorem BOwns.store {w : World} {base g n c i : Nat} {l : List UInt8} (h : BOwns w base (.slice (some ⟨g, 0, none⟩) n c) l) (hi : i < l.length) (x : UInt8) :
    BOwns (w.setCell ⟨g, i, none⟩ (.int .u8 (x.toNat : Int))) base (.slice (some ⟨g, 0, none⟩) n c) (l.set i x) := by
  refine ⟨by rw [bys_length, Nat.mul_one], ?_⟩
  rcases h.2 with ⟨h1, h2⟩ | ⟨g', cap, cur, hv, hg, hh, hn, hcm, hs, ht⟩
  · omega
  · injection hv with e1 e2 e3
    injection e1 with e1
    injection e1 with e1 _ _
    subst e1; subst e3
    rw [List.length_set]
    refine .inr ⟨g, c, cur.setIfInBounds i (.int .u8 (x.toNat : Int)), by rw [e2], hg, ?_, hn, hcm, by simpa using hs, ?_⟩
    · have hb : Blk w g 5 cur := hh
      exact hb.set_ i _
    · rw [Nat.mul_one] at ht ⊢
      rw [Array.toList_setIfInBounds, List.take_set, ht]
      simp [bys, List.map_set]
theorem bits_u8 (op : BinOp) (a b : Int) : ∃ x : UInt8, bits op .u8 a b = (x.toNat : Int) := by
  have h : ∃ n : Int, bits op .u8 a b = IntKind.u8.wrap n := ⟨_, rfl⟩
  obtain ⟨n, hn⟩ := h
  rw [hn, IntKind.wrap_u8]
  refine ⟨UInt8.ofNat (n % 256).toNat, ?_⟩
  rw [u8_int _ (by omega)]
  omega
end Go.Proofs.Ytnnladfndmdapaa
