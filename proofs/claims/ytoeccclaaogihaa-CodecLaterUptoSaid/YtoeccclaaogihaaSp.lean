/- A script: how its steps lie in memory. -/
import Derived.Test.YtoeccclaaogihaaKd
import Derived.Test.YtoeccclaaogihaaStep
namespace Go.Proofs.Ytoeccclaaogihaa
open Go.RowKit

def kSp : Kd Sp := kAs (kPair (kInt .i64) (kPair (kInt .i64) (kPair (kInt .i64) (kInt .i64)))) (fun s => (s.kind, s.low, s.high, s.most))
theorem opens_sp : Opens kSp 54 :=
  opens_as (opens_struct (by kernel_rfl) Try.underlying54
    (opensF_cons (opens_int (by kernel_rfl) Try.underlying3) rfl (opensF_cons (opens_int (by kernel_rfl) Try.underlying3) rfl (opensF_cons (opens_int (by kernel_rfl) Try.underlying3) rfl (opensF_one (opens_int (by kernel_rfl) Try.underlying3) rfl))))) _ (fun x => ⟨x.1, x.2.1, x.2.2.1, x.2.2.2⟩) (fun _ => rfl)
theorem opens_script : Opens (kSlice kSp) 47 :=
  opens_slice (by kernel_rfl) Try.underlying47 opens_sp (by decide) (of_decide_eq_true (by kernel_rfl))
/-- A step of a script, in its cells. -/
theorem script_at {w : World} {B : Nat} {A : Option Addr} {l : List Sp} (h : kSp.Sl w B A l) {i : Nat} (hi : i < l.length) :
    ∃ b off, A = some ⟨b, off, none⟩ ∧ b < B ∧ w.cell? ⟨b, off + i * 4, none⟩ = some (.int .i64 (l[i]).kind) ∧ w.cell? ⟨b, off + i * 4 + 1, none⟩ = some (.int .i64 (l[i]).low) ∧
      w.cell? ⟨b, off + i * 4 + 2, none⟩ = some (.int .i64 (l[i]).high) ∧ w.cell? ⟨b, off + i * 4 + 3, none⟩ = some (.int .i64 (l[i]).most) := by
  obtain ⟨b, off, hA, hb, hr⟩ := h (by omega)
  obtain ⟨cs, hR, hc⟩ := hr i _ (List.getElem?_eq_getElem hi)
  obtain ⟨c1, c2, rfl, ⟨rfl, _⟩, c3, c4, rfl, ⟨rfl, _⟩, c5, c6, rfl, ⟨rfl, _⟩, ⟨rfl, _⟩⟩ := hR
  exact ⟨b, off, hA, hb, hc 0 _ rfl, hc 1 _ rfl, hc 2 _ rfl, hc 3 _ rfl⟩
end Go.Proofs.Ytoeccclaaogihaa
