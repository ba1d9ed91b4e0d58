/- Entries and versions as arguments: how they lie in memory. -/
import Derived.Test.YtnnladfndmdapaaKd
import Derived.Test.YtnnladfndmdapaaEnt6
namespace Go.Proofs.Ytnnladfndmdapaa
open Go.RowKit

def kEn : Kd En := kAs (kPair (kInt .i64) (kPair (kInt .i64) (kPair (kInt .i64) (kPair kStr (kPair kBytes kBool))))) (fun s => (s.kind, s.stamp, s.count, s.key, s.value, s.dead))
set_option maxRecDepth 100000 in
theorem opens_en : Opens kEn 25 :=
  opens_as (opens_struct (K := kPair (kInt .i64) (kPair (kInt .i64) (kPair (kInt .i64) (kPair kStr (kPair kBytes kBool))))) (by kernel_rfl) Try.underlying25
    (opensF_cons (opens_int (by kernel_rfl) Try.underlying3) rfl (opensF_cons (opens_int (by kernel_rfl) Try.underlying3) rfl (opensF_cons (opens_int (by kernel_rfl) Try.underlying3) rfl
      (opensF_cons (opens_str (by kernel_rfl) Try.underlying9) rfl (opensF_cons (opens_bytes (T := 23) (E := 5) (by kernel_rfl) Try.underlying23 Try.underlying5 (by kernel_rfl) (by kernel_rfl)) rfl
        (opensF_one (opens_bool (by kernel_rfl) Try.underlying4) rfl)))))))
    (fun s : En => (s.kind, s.stamp, s.count, s.key, s.value, s.dead)) (fun a => ⟨a.1, a.2.1, a.2.2.1, a.2.2.2.1, a.2.2.2.2.1, a.2.2.2.2.2⟩) (fun _ => rfl)
def kVn : Kd Vn := kAs (kPair kStr (kPair (kInt .i64) (kPair kBytes kBool))) (fun s => (s.key, s.stamp, s.value, s.dead))
set_option maxRecDepth 100000 in
theorem opens_vn : Opens kVn 43 :=
  opens_as (opens_struct (K := kPair kStr (kPair (kInt .i64) (kPair kBytes kBool))) (by kernel_rfl) Try.underlying43
    (opensF_cons (opens_str (by kernel_rfl) Try.underlying9) rfl (opensF_cons (opens_int (by kernel_rfl) Try.underlying3) rfl
      (opensF_cons (opens_bytes (T := 23) (E := 5) (by kernel_rfl) Try.underlying23 Try.underlying5 (by kernel_rfl) (by kernel_rfl)) rfl
        (opensF_one (opens_bool (by kernel_rfl) Try.underlying4) rfl)))))
    (fun s : Vn => (s.key, s.stamp, s.value, s.dead)) (fun a => ⟨a.1, a.2.1, a.2.2.1, a.2.2.2⟩) (fun _ => rfl)
/-- The numbers of an entry are ints. -/
def En.ints (x : En) : Prop := (-9223372036854775808 ≤ x.kind ∧ x.kind ≤ 9223372036854775807) ∧ (-9223372036854775808 ≤ x.stamp ∧ x.stamp ≤ 9223372036854775807) ∧ (-9223372036854775808 ≤ x.count ∧ x.count ≤ 9223372036854775807)
def Vn.ints (x : Vn) : Prop := -9223372036854775808 ≤ x.stamp ∧ x.stamp ≤ 9223372036854775807
theorem en_R {w : World} {B : Nat} {t : En} {cs : List Value} (h : kEn.R w B t cs) : ∃ A' c', cs = (t.cells A' c').toList ∧ t.ints ∧ BReads w B A' t.value ∧ t.value.length ≤ c' := by
  obtain ⟨c1, c2, rfl, ⟨rfl, hk⟩, c3, c4, rfl, ⟨rfl, hs⟩, c5, c6, rfl, ⟨rfl, hn⟩, c7, c8, rfl, rfl, c9, c10, rfl, ⟨A', c', rfl, hc, hp⟩, rfl⟩ := h
  have hk' : -9223372036854775808 ≤ t.kind ∧ t.kind ≤ 9223372036854775807 := by simpa [Lit.wf, IntKind.min, IntKind.max, IntKind.signed, IntKind.bits] using hk
  have hs' : -9223372036854775808 ≤ t.stamp ∧ t.stamp ≤ 9223372036854775807 := by simpa [Lit.wf, IntKind.min, IntKind.max, IntKind.signed, IntKind.bits] using hs
  have hn' : -9223372036854775808 ≤ t.count ∧ t.count ≤ 9223372036854775807 := by simpa [Lit.wf, IntKind.min, IntKind.max, IntKind.signed, IntKind.bits] using hn
  exact ⟨A', c', rfl, ⟨hk', hs', hn'⟩, hp, hc⟩
theorem en_open {w : World} {B : Nat} {t : En} {cs : Array Value} (h : kEn.R w B t (Value.agg cs).cells.toList) : ∃ A' c', cs = t.cells A' c' ∧ t.ints ∧ BReads w B A' t.value ∧ t.value.length ≤ c' := by
  obtain ⟨A', c', e, h1, h2, h3⟩ := en_R h
  exact ⟨A', c', Array.ext' e, h1, h2, h3⟩
theorem vn_R {w : World} {B : Nat} {t : Vn} {cs : List Value} (h : kVn.R w B t cs) : ∃ A' c', cs = (t.cells A' c').toList ∧ t.ints ∧ BReads w B A' t.value ∧ t.value.length ≤ c' := by
  obtain ⟨c1, c2, rfl, rfl, c3, c4, rfl, ⟨rfl, hs⟩, c5, c6, rfl, ⟨A', c', rfl, hc, hp⟩, rfl⟩ := h
  have hs' : -9223372036854775808 ≤ t.stamp ∧ t.stamp ≤ 9223372036854775807 := by simpa [Lit.wf, IntKind.min, IntKind.max, IntKind.signed, IntKind.bits] using hs
  exact ⟨A', c', rfl, hs', hp, hc⟩
theorem vn_open {w : World} {B : Nat} {t : Vn} {cs : Array Value} (h : kVn.R w B t (Value.agg cs).cells.toList) : ∃ A' c', cs = t.cells A' c' ∧ t.ints ∧ BReads w B A' t.value ∧ t.value.length ≤ c' := by
  obtain ⟨A', c', e, h1, h2, h3⟩ := vn_R h
  exact ⟨A', c', Array.ext' e, h1, h2, h3⟩
theorem en_fits {t : En} (h : kEn.fits t) : t.key.size ≤ 140737488355328 ∧ t.value.length ≤ 140737488355328 := by
  have h1 : t.key.size ≤ reachBytes := h.2.2.2.1
  have h2 : t.value.length ≤ reachBytes := h.2.2.2.2.1
  unfold reachBytes at h1 h2
  exact ⟨by omega, by omega⟩
theorem vn_fits {t : Vn} (h : kVn.fits t) : t.key.size ≤ 140737488355328 ∧ t.value.length ≤ 140737488355328 := by
  have h1 : t.key.size ≤ reachBytes := h.1
  have h2 : t.value.length ≤ reachBytes := h.2.2.1
  unfold reachBytes at h1 h2
  exact ⟨by omega, by omega⟩
theorem en_bulk (t : En) : t.key.size + t.value.length ≤ kEn.bulk t := by
  show _ ≤ 1 + (1 + (1 + ((t.key.size + 1) + ((t.value.length + 1) + 1)))); omega
theorem vn_bulk (t : Vn) : t.key.size + t.value.length ≤ kVn.bulk t := by
  show _ ≤ (t.key.size + 1) + (1 + ((t.value.length + 1) + 1)); omega
end Go.Proofs.Ytnnladfndmdapaa
