/- Laws of layer 20: of the first entries of a row just the whole groups that lie in them are read: the law's walk. -/
import Derived.Test.YtmnpchncmbnddaaGreatG21
set_option linter.all false
set_option linter.unusedVariables false
set_option linter.unusedSimpArgs false
set_option linter.unnecessarySimpa false
namespace Go.Proofs.YtmnpchncmbnddaaGreat
open Go.RowKit

/-- Versions of a store that versions were applied to. -/
theorem rbVers_any {w : World} {s : St} {N : Nat} {top : Int} (h : s.item.P w) (hok : s.ok N) (hp : PsOk s.view top) (hN : N ≤ 16777216) (htot : totP s.view ≤ 1099511627776) :
    Calls Tryz.prog 43 #[.pointer (some ⟨s.gs, 0, none⟩)] w fun e w' => ∃ A c, e = .returned (.slice A (versF s.view).length c) ∧ kVn.Sl w' w'.heap.size A (versF s.view) ∧ Below w.heap.size w w' := by
  refine (versions_any h hok hp.cs hN (by rw [totP_vers]; exact htot)).mono ?_
  rintro e w1 ⟨hs, A, c, hhs, rfl, t1⟩
  have hl : (versF s.view).length = hs.length := by rw [← hhs, List.length_map]
  refine ⟨A, c, by rw [hl], ?_, t1.free⟩
  have := hv_sl t1.p rfl (fun e he => by
    rw [hhs] at he
    obtain ⟨h1, _, h3, _, _⟩ := hp.vn he
    have h2 : e.stamp ≤ 4611686018427387904 := by
      unfold En.chk at h1
      by_cases hm : e.ofVersion.may
      · exact (may_5v.1 hm).2.2.2.1
      · rw [if_neg hm] at h1; cases h1
    exact ⟨by omega, by omega⟩)
  rwa [hhs] at this
end Go.Proofs.YtmnpchncmbnddaaGreat

