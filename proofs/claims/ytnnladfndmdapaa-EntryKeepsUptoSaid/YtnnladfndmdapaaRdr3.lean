/- The reader's inner function block; reading. -/
import Derived.Test.YtnnladfndmdapaaRdr2
namespace Go.Proofs.Ytnnladfndmdapaa
open Go.RowKit

/-- What block answers, r being the plain answer: bytes of the reader's own; or it gives up. -/
def GivesBl (w : World) (g : Nat) (A : Option Addr) (c : Nat) (l : List UInt8) (at_ : Nat) (f : Int) (r : Except Int (List UInt8 × Nat)) (e : Ending) (w' : World) : Prop :=
  w.grownBy w' (some g) ∧ match r with
  | .ok (p, k) => ∃ A' c', e = .returned (.slice A' p.length c') ∧ BReads w' g A' p ∧ RdAt w' g A c l (at_ + k) f
  | .error m => e = gaveUp m ∧ ∃ at', RdAt w' g A c l at' f

theorem block_any {w : World} {g : Nat} {A : Option Addr} {c : Nat} {l : List UInt8} {at_ : Nat} {f : Int} (HR : RdAt w g A c l at_ f) (most : Int) :
    Calls Try.prog 97 #[.pointer (some ⟨g, 0, none⟩), .int .i64 most] w (GivesBl w g A c l at_ f (blockF most (l.drop at_))) := by
  by_cases hm : most < 0
  · have HN := Lib.hid (show blockF most (l.drop at_) = .error 2 from by unfold blockF; rw [if_pos hm])
    have H := Lib.hid HR
    clear HR
    go_enter Try.func97, Try.ntmps97
    go_wp2
    refine ⟨rfl, World.grownBy.refl _ _, ?_⟩
    rw [HN.out]
    exact ⟨rfl, _, H.out⟩
  · have H := Lib.hid HR
    clear HR
    go_enter Try.func97, Try.ntmps97
    go_wp2_with fail
    refine (number_any H.out 0 most).mono ?_
    rintro e w1 ⟨hg, hr⟩
    have G1 := Lib.hid hg
    clear hg
    cases hn : numberF 0 most (l.drop at_) with
    | error m =>
      have HE := Lib.hid (show blockF most (l.drop at_) = .error m from by unfold blockF; rw [if_neg (by omega), hn])
      rw [hn] at hr
      obtain ⟨rfl, at', hr'⟩ := hr
      have R1 := Lib.hid hr'
      clear hr' hn
      unfold gaveUp
      go_wp2
      exact ⟨rfl, G1.out, by rw [HE.out]; exact ⟨rfl, _, R1.out⟩⟩
    | ok x =>
      obtain ⟨n, k⟩ := x
      rw [hn] at hr
      obtain ⟨rfl, hr'⟩ := hr
      have R1 := Lib.hid hr'
      have hb := numberF_ok hn
      obtain ⟨n, rfl⟩ := Int.eq_ofNat_of_zero_le hb.1
      have hld : (l.drop at_).length = l.length - at_ := List.length_drop
      by_cases hcut : (l.length : Int) - ((at_ + k : Nat) : Int) < (n : Int)
      · have HE := Lib.hid (show blockF most (l.drop at_) = .error 20 from by unfold blockF; rw [if_neg (by omega), hn]; simp only; rw [if_pos (by omega)])
        clear hr' hn hb hld
        go_wp2_with fail
        refine (take_cut R1.out n hcut).mono ?_
        rintro e w2 ⟨rfl, m, rfl⟩
        unfold gaveUp
        go_wp2
        exact ⟨rfl, grown_trans G1.out (drewN_grown _ _ _), by rw [HE.out]; exact ⟨rfl, _, R1.out.drewN m⟩⟩
      · have hp : (((l.drop at_).drop k).take n).length = n := by rw [List.length_take, List.length_drop]; have := H.out.le; omega
        have HE := Lib.hid (show blockF most (l.drop at_) = .ok (((l.drop at_).drop k).take n, k + n) from by unfold blockF; rw [if_neg (by omega), hn]; simp only; rw [if_neg (by have := H.out.le; omega), Int.toNat_natCast])
        have HP := Lib.hid hp
        have hle : at_ + k + n ≤ l.length := by omega
        clear hr' hn hb hld hp
        go_wp2_with fail
        refine (take_ok R1.out n hle).mono ?_
        rintro e w2 ⟨A2, rfl, R2, G2, S2⟩
        go_wp2
        go_ret
        refine ⟨grown_trans G1.out G2.out, ?_⟩
        rw [HE.out]
        exact ⟨A2, _, by rw [HP.out]; rfl, by rw [List.drop_drop]; exact S2.out, by rw [← Nat.add_assoc]; exact R2.out⟩
end Go.Proofs.Ytnnladfndmdapaa
