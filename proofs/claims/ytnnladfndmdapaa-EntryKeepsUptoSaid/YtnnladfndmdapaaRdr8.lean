/- The reader's Open, Left, Fault, End: contracts; and a reader that is not there. -/
import Derived.Test.YtnnladfndmdapaaRdr5
namespace Go.Proofs.Ytnnladfndmdapaa
open Go.RowKit

def Rd.left (r : Rd) : Int := (r.l.length : Int) - r.at_
def Rd.end_ (r : Rd) : Int := if r.f = 0 then (if 0 < r.left then 22 else 0) else r.f

theorem BOwns.keeps {S : Nat → Prop} {w w' : World} {base : Nat} {v : Value} {l : List UInt8} (h : BOwns w base v l) (hk : Keeps S w w') (hs : ∀ i, base ≤ i → ¬ S i) : BOwns w' base v l := by
  refine ⟨h.1, ?_⟩
  rcases h.2 with h2 | ⟨g, cap, cur, hv, hg, hh, r⟩
  · exact .inl h2
  · have hb : Blk w g 5 cur := hh
    exact .inr ⟨g, cap, cur, hv, hg, hb.keeps hk (hs g hg), r⟩
/-- What the call owns, read: below the blocks that w had not yet. -/
theorem BOwns.lies {w w' : World} {base n c : Nat} {A : Option Addr} {l : List UInt8} (h : BOwns w base (.slice A n c) l) (h' : BOwns w' base (.slice A n c) l) : BReads w' w.heap.size A l := by
  refine ⟨by rw [bys_length, Nat.mul_one], fun hp => ?_⟩
  rcases h.2 with ⟨_, h2⟩ | ⟨g, cap, cur, hv, hg, hh, _⟩
  · omega
  · have hlt : g < w.heap.size := by have hb : Blk w g 5 cur := hh; exact hb.lt
    obtain ⟨A', c', e, _, hr⟩ := h'.slice
    injection e with e1 _ _
    injection hv with e2 _ _
    subst e1
    obtain ⟨b, off, e3, _, hc⟩ := hr.2 hp
    rw [e2] at e3
    injection e3 with e3
    injection e3 with e4 e5
    subst e4; subst e5
    exact ⟨g, 0, e2, hlt, hc⟩

theorem BOwns.ours {w : World} {base n c : Nat} {A : Option Addr} {l : List UInt8} (h : BOwns w base (.slice A n c) l) : Ours w A l := fun hp => by
  rcases h.2 with ⟨_, h2⟩ | ⟨g, cap, cur, hv, hg, hh, _⟩
  · omega
  · injection hv with e _ _
    exact ⟨g, 0, cur, _, e, hh⟩

/-- A new reader, in new memory. -/
def Opened (w : World) (l : List UInt8) (e : Ending) (w' : World) : Prop := ∃ g, e = .returned (.pointer (some ⟨g, 0, none⟩)) ∧ w.heap.size ≤ g ∧ (∀ w'', Keeps (fun k => k < w.heap.size) w' w'' → RdIs w'' g ⟨l, 0, 0⟩) ∧ Below w.heap.size w w'
theorem Opened.out {w : World} {l : List UInt8} {e : Ending} {w' : World} (h : Opened w l e w') : ∃ g, e = .returned (.pointer (some ⟨g, 0, none⟩)) ∧ w.heap.size ≤ g ∧ RdIs w' g ⟨l, 0, 0⟩ ∧ Below w.heap.size w w' := by
  obtain ⟨g, e, hg, hr, hb⟩ := h
  exact ⟨g, e, hg, hr _ (Keeps.refl _ _), hb⟩
theorem Opened.all {w : World} {l : List UInt8} {e : Ending} {w' : World} (h : Opened w l e w') : ∃ g, e = .returned (.pointer (some ⟨g, 0, none⟩)) ∧ w.heap.size ≤ g ∧ g < w'.heap.size ∧ Hid (∀ w'', Keeps (fun k => k < w.heap.size) w' w'' → RdIs w'' g ⟨l, 0, 0⟩) ∧ Below w.heap.size w w' := by
  obtain ⟨g, e, hg, hr, hb⟩ := h
  exact ⟨g, e, hg, (hr _ (Keeps.refl _ _)).lt, Lib.hid hr, hb⟩

theorem open_any {w : World} {B c : Nat} {A : Option Addr} {l : List UInt8} (hr : BReads w B A l) (hl : l.length ≤ 140737488355328) :
    Calls Try.prog 65 #[.slice A l.length c] w (Opened w l) := by
  go_enter Try.func65, Try.ntmps65
  go_wp2_with fail
  refine (own_any hr hl).mono ?_
  rintro e w1 h
  obtain ⟨L, A1, c1, rfl, E1, O1, R1, B1⟩ := h.named
  have hc : L.length ≤ c1 := by obtain ⟨A', c', e, hc, _⟩ := O1.out.slice; injection e with _ _ e; omega
  have HC := Lib.hid hc
  clear h hc
  go_wp2
  go_ret
  refine ⟨w1.heap.size, rfl, B1.out.size, fun w'' hk => ⟨A1, c1, ?_⟩, B1.out.alloc B1.out.size _⟩
  rw [← E1.out]
  have O2 : BOwns w'' w.heap.size (.slice A1 L.length c1) L := (O1.out.below ((Below.refl _ _).alloc (Nat.le_refl _) _)).keeps hk (fun i hi h => by omega)
  exact ⟨(Blk.new _ _ _).keeps hk (fun h => by have := B1.out.size; omega), O1.out.lies O2, HC.out, Nat.zero_le _, by rw [E1.out]; exact hl, O2.ours⟩

theorem fault_any {w : World} {g : Nat} {r : Rd} (h : RdIs w g r) : Calls Try.prog 101 #[.pointer (some ⟨g, 0, none⟩)] w fun e w' => e = .returned (.int .i64 r.f) ∧ w = w' := by
  obtain ⟨A, c, HR⟩ := h
  have c2 := HR.blk.cell 2
  simp at c2
  clear HR
  go_enter Try.func101, Try.ntmps101
  go_wp2
  go_ret
  exact ⟨rfl, rfl⟩
theorem left_any {w : World} {g : Nat} {r : Rd} (h : RdIs w g r) : Calls Try.prog 102 #[.pointer (some ⟨g, 0, none⟩)] w fun e w' => e = .returned (.int .i64 r.left) ∧ ∃ m, w' = w.drewN m := by
  obtain ⟨A, c, HR⟩ := h
  have c0 := HR.blk.cell 0
  have c1 := HR.blk.cell 1
  have hs := HR.small
  have hl := HR.le
  simp at c0 c1
  clear HR
  go_enter Try.func102, Try.ntmps102
  go_wp2
  go_quiet (fail)
  go_wp2
  go_ret
  exact ⟨rfl, _, rfl⟩
theorem end_any {w : World} {g : Nat} {r : Rd} (h : RdIs w g r) : Calls Try.prog 70 #[.pointer (some ⟨g, 0, none⟩)] w fun e w' => e = .returned (.int .i64 r.end_) ∧ ∃ m, w' = w.drewN m := by
  have H := Lib.hid h
  clear h
  by_cases hf : r.f = 0
  · have hb : ((r.f : Int) != 0) = false := by simpa using hf
    have HF := Lib.hid hf
    clear hf
    by_cases hl : 0 < r.left
    · have HE := Lib.hid (show r.end_ = 22 from by unfold Rd.end_; rw [if_pos HF.out, if_pos hl])
      go_enter Try.func70, Try.ntmps70
      go_wp2_with fail
      refine (fault_any H.out).mono ?_
      rintro e w' ⟨rfl, rfl⟩
      go_wp2_with fail
      refine (left_any H.out).mono ?_
      rintro e w' ⟨rfl, m, rfl⟩
      go_wp2
      go_ret
      exact ⟨by rw [HE.out]; rfl, _, rfl⟩
    · have HE := Lib.hid (show r.end_ = 0 from by unfold Rd.end_; rw [if_pos HF.out, if_neg hl])
      go_enter Try.func70, Try.ntmps70
      go_wp2_with fail
      refine (fault_any H.out).mono ?_
      rintro e w' ⟨rfl, rfl⟩
      go_wp2_with fail
      refine (left_any H.out).mono ?_
      rintro e w' ⟨rfl, m, rfl⟩
      go_wp2
      go_ret
      exact ⟨by rw [HE.out]; rfl, _, rfl⟩
  · have hb : ((r.f : Int) != 0) = true := by simpa using hf
    have HE := Lib.hid (show r.end_ = r.f from by unfold Rd.end_; rw [if_neg hf])
    clear hf
    go_enter Try.func70, Try.ntmps70
    go_wp2_with fail
    refine (fault_any H.out).mono ?_
    rintro e w' ⟨rfl, rfl⟩
    go_wp2
    go_ret
    exact ⟨by rw [HE.out]; rfl, 0, rfl⟩
end Go.Proofs.Ytnnladfndmdapaa
