/- The law's Thing: how it lies in memory; laid and back, by contract (printed by a program of this claim's own). -/
import Derived.Test.YtoeccclaaogihaaKd
import Derived.Test.YtoeccclaaogihaaStep
import Derived.Test.YtoeccclaaogihaaFixed
import Derived.Test.YtoeccclaaogihaaPlainT
import Derived.Deep.RegionHeld3
import Derived.Laws.Strings
namespace Go.Proofs.Ytoeccclaaogihaa
open Go.RowKit

def kTh : Kd Th := kAs (kPair (kInt .i64) (kPair (kInt .u64) (kPair (kInt .i64) kBytes))) (fun s => (s.kind, s.v, s.n, s.p))
theorem opens_th : Opens kTh 42 :=
  opens_as (opens_struct (by kernel_rfl) Try.underlying42
    (opensF_cons (opens_int (by kernel_rfl) Try.underlying3) rfl (opensF_cons (opens_int (by kernel_rfl) Try.underlying30) rfl (opensF_cons (opens_int (by kernel_rfl) Try.underlying3) rfl (opensF_one (opens_bytes (T := 23) (E := 5) (by kernel_rfl) Try.underlying23 Try.underlying5 (by kernel_rfl) (by kernel_rfl)) rfl))))) _ (fun x => ⟨x.1, x.2.1, x.2.2.1, x.2.2.2⟩) (fun _ => rfl)
theorem opens_things : Opens (kSlice kTh) 67 :=
  opens_slice (by kernel_rfl) Try.underlying67 opens_th (by decide) (of_decide_eq_true (by kernel_rfl))
def Th.cells (t : Th) (A : Option Addr) (c : Nat) : Array Value := #[.int .i64 t.kind, .int .u64 t.v, .int .i64 t.n, .slice A t.p.length c]
theorem th_at {w : World} {B : Nat} {A : Option Addr} {l : List Th} (h : kTh.Sl w B A l) {i : Nat} (hi : i < l.length) :
    ∃ b off, A = some ⟨b, off, none⟩ ∧ b < B ∧ (l[i]).ok ∧ ∃ A' c', w.cell? ⟨b, off + i * 4, none⟩ = some (.int .i64 (l[i]).kind) ∧ w.cell? ⟨b, off + i * 4 + 1, none⟩ = some (.int .u64 (l[i]).v) ∧
      w.cell? ⟨b, off + i * 4 + 2, none⟩ = some (.int .i64 (l[i]).n) ∧ w.cell? ⟨b, off + i * 4 + 3, none⟩ = some (.slice A' (l[i]).p.length c') ∧ BReads w B A' (l[i]).p := by
  obtain ⟨b, off, hA, hb, hr⟩ := h (by omega)
  obtain ⟨cs, hR, hc⟩ := hr i _ (List.getElem?_eq_getElem hi)
  obtain ⟨c1, c2, rfl, ⟨rfl, _⟩, c3, c4, rfl, ⟨rfl, hv⟩, c5, c6, rfl, ⟨rfl, hn⟩, ⟨A', c', rfl, _, hp⟩⟩ := hR
  have hv' : 0 ≤ (l[i]).v ∧ (l[i]).v ≤ 18446744073709551615 := by simpa [Lit.wf, IntKind.min, IntKind.max, IntKind.signed, IntKind.bits] using hv
  have hn' : -9223372036854775808 ≤ (l[i]).n ∧ (l[i]).n ≤ 9223372036854775807 := by simpa [Lit.wf, IntKind.min, IntKind.max, IntKind.signed, IntKind.bits] using hn
  exact ⟨b, off, hA, hb, ⟨hv'.1, by omega, hn'.1, hn'.2⟩, A', c', hc 0 _ rfl, hc 1 _ rfl, hc 2 _ rfl, hc 3 _ rfl, hp⟩
theorem th_open {w : World} {B : Nat} {t : Th} {cs : Array Value} (h : kTh.R w B t (Value.agg cs).cells.toList) : ∃ A' c', cs = t.cells A' c' ∧ t.ok ∧ BReads w B A' t.p := by
  obtain ⟨c1, c2, e, ⟨rfl, _⟩, c3, c4, rfl, ⟨rfl, hv⟩, c5, c6, rfl, ⟨rfl, hn⟩, ⟨A', c', rfl, _, hp⟩⟩ := h
  have hv' : 0 ≤ t.v ∧ t.v ≤ 18446744073709551615 := by simpa [Lit.wf, IntKind.min, IntKind.max, IntKind.signed, IntKind.bits] using hv
  have hn' : -9223372036854775808 ≤ t.n ∧ t.n ≤ 9223372036854775807 := by simpa [Lit.wf, IntKind.min, IntKind.max, IntKind.signed, IntKind.bits] using hn
  exact ⟨A', c', Array.ext' e, ⟨hv'.1, by omega, hn'.1, hn'.2⟩, hp⟩

theorem laid_any {w : World} {c c' : Nat} {A A' : Option Addr} {l : List UInt8} (t : Th) (hok : t.ok) (hr : BReads w w.heap.size A l) (hp : BReads w w.heap.size A' t.p) (hl : l.length + t.p.length ≤ 100000000) :
    Calls Try.prog 33 #[.slice A l.length c, .agg (t.cells A' c')] w (GivesB w (l ++ t.bytes)) := by
  obtain ⟨kind, v, n, p⟩ := t
  unfold Th.cells
  simp only at hp hl ⊢
  have HR := Lib.hid (hr.below ((Below.refl _ w).alloc (Nat.le_refl _) (.cells #[.int .i64 kind, .int .u64 v, .int .i64 n, .slice A' p.length c'] 42)))
  have HP := Lib.hid (hp.below ((Below.refl _ w).alloc (Nat.le_refl _) (.cells #[.int .i64 kind, .int .u64 v, .int .i64 n, .slice A' p.length c'] 42)))
  clear hr hp
  by_cases hk0 : kind = 0
  · have k0 : (kind == 0) = true := by simp; omega
    have k1 : (kind == 1) = false := by simp; omega
    have k2 : (kind == 2) = false := by simp; omega
    have k3 : (kind == 3) = false := by simp; omega
    have k4 : (kind == 4) = false := by simp; omega
    have k5 : (kind == 5) = false := by simp; omega
    have HE := Lib.hid (show Th.bytes ⟨kind, v, n, p⟩ = beN 1 (v.toNat % 256) from by unfold Th.bytes; simp only; rw [if_pos (show kind = 0 from hk0)])
    obtain ⟨u, rfl⟩ := Int.eq_ofNat_of_zero_le hok.v0
    obtain ⟨q, hq⟩ : ∃ q, q = u % 256 := ⟨_, rfl⟩
    have XQ := Lib.hid (show q < 256 from by omega)
    have EQ := Lib.hid (show ((u : Int)).toNat % 256 = q from by rw [Int.toNat_natCast]; exact hq.symm)
    have eq1 : (u : Int) % 256 = (q : Int) := by omega
    have eq2 : IntKind.u8.wrap (u : Int) = (q : Int) := by rw [IntKind.wrap_u8]; omega
    clear hq hok
    clear hk0
    go_enter Try.func33, Try.ntmps33
    go_wp2_with fail
    refine (put8_any q HR.out XQ.out (by omega)).mono ?_
    rintro e w1 h
    obtain ⟨v', rfl, ho, hb⟩ := h.out
    have HO := Lib.hid ho
    have HB := Lib.hid (below_alloc1 hb)
    have SZ := Lib.hid (show w.heap.size ≤ (w.alloc (.cells #[.int .i64 kind, .int .u64 (u : Int), .int .i64 n, .slice A' p.length c'] 42)).heap.size from by simp)
    clear ho hb h
    go_wp2
    go_ret
    exact ⟨v', rfl, by rw [HE.out]; rw [EQ.out]; exact owns_less HO.out SZ.out, HB.out⟩
  by_cases hk1 : kind = 1
  · have k0 : (kind == 0) = false := by simp; omega
    have k1 : (kind == 1) = true := by simp; omega
    have k2 : (kind == 2) = false := by simp; omega
    have k3 : (kind == 3) = false := by simp; omega
    have k4 : (kind == 4) = false := by simp; omega
    have k5 : (kind == 5) = false := by simp; omega
    have HE := Lib.hid (show Th.bytes ⟨kind, v, n, p⟩ = beN 2 (v.toNat % 65536) from by unfold Th.bytes; simp only; rw [if_neg (show ¬ kind = 0 from hk0), if_pos (show kind = 1 from hk1)])
    obtain ⟨u, rfl⟩ := Int.eq_ofNat_of_zero_le hok.v0
    obtain ⟨q, hq⟩ : ∃ q, q = u % 65536 := ⟨_, rfl⟩
    have XQ := Lib.hid (show q < 65536 from by omega)
    have EQ := Lib.hid (show ((u : Int)).toNat % 65536 = q from by rw [Int.toNat_natCast]; exact hq.symm)
    have eq1 : (u : Int) % 65536 = (q : Int) := by omega
    have eq2 : IntKind.u16.wrap (u : Int) = (q : Int) := by rw [IntKind.wrap_u16]; omega
    clear hq hok
    clear hk0 hk1
    go_enter Try.func33, Try.ntmps33
    go_wp2_with fail
    refine (put16_any q HR.out XQ.out (by omega)).mono ?_
    rintro e w1 h
    obtain ⟨v', rfl, ho, hb⟩ := h.out
    have HO := Lib.hid ho
    have HB := Lib.hid (below_alloc1 hb)
    have SZ := Lib.hid (show w.heap.size ≤ (w.alloc (.cells #[.int .i64 kind, .int .u64 (u : Int), .int .i64 n, .slice A' p.length c'] 42)).heap.size from by simp)
    clear ho hb h
    go_wp2
    go_ret
    exact ⟨v', rfl, by rw [HE.out]; rw [EQ.out]; exact owns_less HO.out SZ.out, HB.out⟩
  by_cases hk2 : kind = 2
  · have k0 : (kind == 0) = false := by simp; omega
    have k1 : (kind == 1) = false := by simp; omega
    have k2 : (kind == 2) = true := by simp; omega
    have k3 : (kind == 3) = false := by simp; omega
    have k4 : (kind == 4) = false := by simp; omega
    have k5 : (kind == 5) = false := by simp; omega
    have HE := Lib.hid (show Th.bytes ⟨kind, v, n, p⟩ = beN 4 (v.toNat % 4294967296) from by unfold Th.bytes; simp only; rw [if_neg (show ¬ kind = 0 from hk0), if_neg (show ¬ kind = 1 from hk1), if_pos (show kind = 2 from hk2)])
    obtain ⟨u, rfl⟩ := Int.eq_ofNat_of_zero_le hok.v0
    obtain ⟨q, hq⟩ : ∃ q, q = u % 4294967296 := ⟨_, rfl⟩
    have XQ := Lib.hid (show q < 4294967296 from by omega)
    have EQ := Lib.hid (show ((u : Int)).toNat % 4294967296 = q from by rw [Int.toNat_natCast]; exact hq.symm)
    have eq1 : (u : Int) % 4294967296 = (q : Int) := by omega
    have eq2 : IntKind.u32.wrap (u : Int) = (q : Int) := by rw [IntKind.wrap_u32']; omega
    clear hq hok
    clear hk0 hk1 hk2
    go_enter Try.func33, Try.ntmps33
    go_wp2_with fail
    refine (put32_any q HR.out XQ.out (by omega)).mono ?_
    rintro e w1 h
    obtain ⟨v', rfl, ho, hb⟩ := h.out
    have HO := Lib.hid ho
    have HB := Lib.hid (below_alloc1 hb)
    have SZ := Lib.hid (show w.heap.size ≤ (w.alloc (.cells #[.int .i64 kind, .int .u64 (u : Int), .int .i64 n, .slice A' p.length c'] 42)).heap.size from by simp)
    clear ho hb h
    go_wp2
    go_ret
    exact ⟨v', rfl, by rw [HE.out]; rw [EQ.out]; exact owns_less HO.out SZ.out, HB.out⟩
  by_cases hk3 : kind = 3
  · have k0 : (kind == 0) = false := by simp; omega
    have k1 : (kind == 1) = false := by simp; omega
    have k2 : (kind == 2) = false := by simp; omega
    have k3 : (kind == 3) = true := by simp; omega
    have k4 : (kind == 4) = false := by simp; omega
    have k5 : (kind == 5) = false := by simp; omega
    have HE := Lib.hid (show Th.bytes ⟨kind, v, n, p⟩ = beN 8 v.toNat from by unfold Th.bytes; simp only; rw [if_neg (show ¬ kind = 0 from hk0), if_neg (show ¬ kind = 1 from hk1), if_neg (show ¬ kind = 2 from hk2), if_pos (show kind = 3 from hk3)])
    obtain ⟨q, rfl⟩ := Int.eq_ofNat_of_zero_le hok.v0
    have XQ := Lib.hid (show q < 18446744073709551616 from by have := (show (q : Int) < 18446744073709551616 from hok.v1); omega)
    have EQ := Lib.hid (show ((q : Int)).toNat = q from by omega)
    clear hok
    clear hk0 hk1 hk2 hk3
    go_enter Try.func33, Try.ntmps33
    go_wp2_with fail
    refine (put64_any q HR.out XQ.out (by omega)).mono ?_
    rintro e w1 h
    obtain ⟨v', rfl, ho, hb⟩ := h.out
    have HO := Lib.hid ho
    have HB := Lib.hid (below_alloc1 hb)
    have SZ := Lib.hid (show w.heap.size ≤ (w.alloc (.cells #[.int .i64 kind, .int .u64 (q : Int), .int .i64 n, .slice A' p.length c'] 42)).heap.size from by simp)
    clear ho hb h
    go_wp2
    go_ret
    exact ⟨v', rfl, by rw [HE.out]; rw [EQ.out]; exact owns_less HO.out SZ.out, HB.out⟩
  by_cases hk4 : kind = 4
  · have k0 : (kind == 0) = false := by simp; omega
    have k1 : (kind == 1) = false := by simp; omega
    have k2 : (kind == 2) = false := by simp; omega
    have k3 : (kind == 3) = false := by simp; omega
    have k4 : (kind == 4) = true := by simp; omega
    have k5 : (kind == 5) = false := by simp; omega
    have HE := Lib.hid (show Th.bytes ⟨kind, v, n, p⟩ = intF n from by unfold Th.bytes; simp only; rw [if_neg (show ¬ kind = 0 from hk0), if_neg (show ¬ kind = 1 from hk1), if_neg (show ¬ kind = 2 from hk2), if_neg (show ¬ kind = 3 from hk3), if_pos (show kind = 4 from hk4)])
    have H0 := Lib.hid hok.n0
    have H1 := Lib.hid hok.n1
    clear hok
    clear hk0 hk1 hk2 hk3 hk4
    go_enter Try.func33, Try.ntmps33
    go_wp2_with fail
    refine (putInt_any n HR.out H0.out H1.out (by omega)).mono ?_
    rintro e w1 h
    obtain ⟨v', rfl, ho, hb⟩ := h.out
    have HO := Lib.hid ho
    have HB := Lib.hid (below_alloc1 hb)
    have SZ := Lib.hid (show w.heap.size ≤ (w.alloc (.cells #[.int .i64 kind, .int .u64 v, .int .i64 n, .slice A' p.length c'] 42)).heap.size from by simp)
    clear ho hb h
    go_wp2
    go_ret
    exact ⟨v', rfl, by rw [HE.out]; exact owns_less HO.out SZ.out, HB.out⟩
  by_cases hk5 : kind = 5
  · have k0 : (kind == 0) = false := by simp; omega
    have k1 : (kind == 1) = false := by simp; omega
    have k2 : (kind == 2) = false := by simp; omega
    have k3 : (kind == 3) = false := by simp; omega
    have k4 : (kind == 4) = false := by simp; omega
    have k5 : (kind == 5) = true := by simp; omega
    have HE := Lib.hid (show Th.bytes ⟨kind, v, n, p⟩ = intF p.length ++ p from by unfold Th.bytes; simp only; rw [if_neg (show ¬ kind = 0 from hk0), if_neg (show ¬ kind = 1 from hk1), if_neg (show ¬ kind = 2 from hk2), if_neg (show ¬ kind = 3 from hk3), if_neg (show ¬ kind = 4 from hk4), if_pos (show kind = 5 from hk5)])
    have kc := conv_text HP.out c'
    obtain ⟨s, hs⟩ : ∃ s : ByteArray, s = ⟨p.toArray⟩ := ⟨_, rfl⟩
    rw [← hs] at kc
    have HS := Lib.hid (show s.data.toList = p from by rw [hs])
    have hss : s.size = p.length := by rw [hs]; rfl
    have HSS := Lib.hid hss
    have hs2 : s.size ≤ 100000000 := by omega
    have hs3 : l.length + s.size ≤ 100000000 := by omega
    clear hok hs hss
    clear hk0 hk1 hk2 hk3 hk4 hk5
    go_enter Try.func33, Try.ntmps33
    go_wp2_with fail
    refine (putText_any s HR.out (by omega) (by omega)).mono ?_
    rintro e w1 h
    obtain ⟨v', rfl, ho, hb⟩ := h.out
    have HO := Lib.hid ho
    have HB := Lib.hid (below_alloc1 hb)
    have SZ := Lib.hid (show w.heap.size ≤ (w.alloc (.cells #[.int .i64 kind, .int .u64 v, .int .i64 n, .slice A' p.length c'] 42)).heap.size from by simp)
    clear ho hb h
    go_wp2
    go_ret
    exact ⟨v', rfl, by rw [HE.out]; rw [← List.append_assoc]; rw [HSS.out, HS.out] at HO; exact owns_less HO.out SZ.out, HB.out⟩
  have k0 : (kind == 0) = false := by simp; omega
  have k1 : (kind == 1) = false := by simp; omega
  have k2 : (kind == 2) = false := by simp; omega
  have k3 : (kind == 3) = false := by simp; omega
  have k4 : (kind == 4) = false := by simp; omega
  have k5 : (kind == 5) = false := by simp; omega
  have HE := Lib.hid (show Th.bytes ⟨kind, v, n, p⟩ = intF p.length ++ p from by unfold Th.bytes; simp only; rw [if_neg (show ¬ kind = 0 from hk0), if_neg (show ¬ kind = 1 from hk1), if_neg (show ¬ kind = 2 from hk2), if_neg (show ¬ kind = 3 from hk3), if_neg (show ¬ kind = 4 from hk4), if_neg (show ¬ kind = 5 from hk5)])
  clear hok
  clear hk0 hk1 hk2 hk3 hk4 hk5
  go_enter Try.func33, Try.ntmps33
  go_wp2_with fail
  refine (putBytes_any HR.out HP.out (by simp) (by omega)).mono ?_
  rintro e w1 h
  obtain ⟨v', rfl, ho, hb⟩ := h.out
  have HO := Lib.hid ho
  have HB := Lib.hid (below_alloc1 hb)
  have SZ := Lib.hid (show w.heap.size ≤ (w.alloc (.cells #[.int .i64 kind, .int .u64 v, .int .i64 n, .slice A' p.length c'] 42)).heap.size from by simp)
  clear ho hb h
  go_wp2
  go_ret
  exact ⟨v', rfl, by rw [HE.out]; rw [← List.append_assoc]; exact owns_less HO.out SZ.out, HB.out⟩

def BackPost (w : World) (g : Nat) (x : Bool × Rd) (e : Ending) (w' : World) : Prop := e = .returned (.bool x.1) ∧ RdIs w' g x.2 ∧ Keeps (fun k => k = g) w w'
theorem bool_nat (m q : Nat) : (((m : Int) == (q : Int)) : Bool) = decide (m = q) := by rw [Bool.eq_iff_iff]; simp; omega
theorem bool_int (m q : Int) : ((m == q) : Bool) = decide (m = q) := by rw [Bool.eq_iff_iff]; simp
theorem ba_toList (m : List UInt8) : (⟨m.toArray⟩ : ByteArray).toList = m := by rw [ByteArray.toList_eq]
theorem text_eq (m p : List UInt8) : (((⟨m.toArray⟩ : ByteArray).toList == (⟨p.toArray⟩ : ByteArray).toList) : Bool) = decide (m = p) := by
  rw [ba_toList, ba_toList, Bool.eq_iff_iff]; simp
theorem Keeps.drew {S : Nat → Prop} {a w : World} (h : Keeps S a w) : Keeps S a w.drew := ⟨h.os, h.tape, h.output, h.size, h.block⟩
set_option maxRecDepth 100000 in
theorem back_any {w : World} {g c' : Nat} {A' : Option Addr} {r : Rd} (t : Th) (hok : t.ok) (h : RdIs w g r) (hp : BReads w w.heap.size A' t.p) (hl : t.p.length ≤ 100000000) (hpa : ∀ w', Keeps (fun k => k = g) w w' → BReads w' w'.heap.size A' t.p) :
    Calls Try.prog 46 #[.pointer (some ⟨g, 0, none⟩), .agg (t.cells A' c')] w (BackPost w g (r.back t)) := by
  obtain ⟨kind, v, n, p⟩ := t
  unfold Th.cells
  simp only at hp hl hpa ⊢
  have hg := h.lt
  have KN := Lib.hid (Blk.new w 42 #[.int .i64 kind, .int .u64 v, .int .i64 n, .slice A' p.length c'])
  have HR := Lib.hid (h.below ((Below.refl _ w).alloc (Nat.le_refl _) (.cells #[.int .i64 kind, .int .u64 v, .int .i64 n, .slice A' p.length c'] 42)))
  have K0 := Lib.hid ((Keeps.refl (fun k => k = g) w).alloc (.cells #[.int .i64 kind, .int .u64 v, .int .i64 n, .slice A' p.length c'] 42))
  have HPA := Lib.hid hpa
  clear h hp hpa
  by_cases hk0 : kind = 0
  · have k0 : (kind == 0) = true := by simp; omega
    have k1 : (kind == 1) = false := by simp; omega
    have k2 : (kind == 2) = false := by simp; omega
    have k3 : (kind == 3) = false := by simp; omega
    have k4 : (kind == 4) = false := by simp; omega
    have k5 : (kind == 5) = false := by simp; omega
    have HE := Lib.hid (show Rd.back r ⟨kind, v, n, p⟩ = (decide ((r.take 1).1 = v.toNat % 256), (r.take 1).2) from by unfold Rd.back; simp only; rw [if_pos (show kind = 0 from hk0)])
    obtain ⟨u, rfl⟩ := Int.eq_ofNat_of_zero_le hok.v0
    obtain ⟨q, hq⟩ : ∃ q, q = u % 256 := ⟨_, rfl⟩
    have XQ := Lib.hid (show q < 256 from by omega)
    have EQ := Lib.hid (show ((u : Int)).toNat % 256 = q from by rw [Int.toNat_natCast]; exact hq.symm)
    have eq1 : (u : Int) % 256 = (q : Int) := by omega
    have eq2 : IntKind.u8.wrap (u : Int) = (q : Int) := by rw [IntKind.wrap_u8]; omega
    clear hq hok
    clear hk0
    go_enter Try.func46, Try.ntmps46
    go_wp2
    obtain ⟨W, hW⟩ : ∃ x, x = w.alloc (.cells #[.int .i64 kind, .int .u64 (u : Int), .int .i64 n, .slice A' p.length c'] 42) := ⟨_, rfl⟩
    obtain ⟨s, hs⟩ : ∃ s, s = w.heap.size := ⟨_, rfl⟩
    rw [← hW] at KN HR K0 ⊢
    rw [← hs] at KN hg ⊢
    have HS := Lib.hid hs
    clear hW hs
    have c1 := KN.out.cell 1
    simp at c1
    go_region_held3 (fun w' => w'.cell? ⟨s, 1, none⟩ = some (.int .u64 (u : Int))) (first | assumption) ((go_at_call 50; refine (rdTake8_any (HR.out.below (below_drewN (Below.refl _ _) 1))).mono ?_; rintro e w1 ⟨ha, hr, hk⟩; obtain ⟨m, hm⟩ : ∃ m, m = (r.take 1).1 := ⟨_, rfl⟩; rw [← hm] at ha; obtain rfl : e = .returned (.int .u8 m) := ha; have HM := Lib.hid hm; have HK := Lib.hid (show Keeps (fun k => k = g) W w1 from ⟨hk.os, hk.tape, hk.output, hk.size, hk.block⟩); have RR := Lib.hid hr; clear hr hk hm; have x1 := (KN.out.keeps HK.out (show ¬ s = g by omega)).cell 1; simp at x1))
    go_wp2
    go_ret
    refine ⟨?_, by rw [HE.out]; exact RR.out, K0.out.trans HK.out (fun i hi => .inl hi)⟩
    rw [HE.out]
    show Ending.returned (.bool ((m : Int) == (q : Int))) = Ending.returned (.bool (decide ((r.take 1).1 = _)))
    rw [EQ.out, ← HM.out, bool_nat]
  by_cases hk1 : kind = 1
  · have k0 : (kind == 0) = false := by simp; omega
    have k1 : (kind == 1) = true := by simp; omega
    have k2 : (kind == 2) = false := by simp; omega
    have k3 : (kind == 3) = false := by simp; omega
    have k4 : (kind == 4) = false := by simp; omega
    have k5 : (kind == 5) = false := by simp; omega
    have HE := Lib.hid (show Rd.back r ⟨kind, v, n, p⟩ = (decide ((r.take 2).1 = v.toNat % 65536), (r.take 2).2) from by unfold Rd.back; simp only; rw [if_neg (show ¬ kind = 0 from hk0), if_pos (show kind = 1 from hk1)])
    obtain ⟨u, rfl⟩ := Int.eq_ofNat_of_zero_le hok.v0
    obtain ⟨q, hq⟩ : ∃ q, q = u % 65536 := ⟨_, rfl⟩
    have XQ := Lib.hid (show q < 65536 from by omega)
    have EQ := Lib.hid (show ((u : Int)).toNat % 65536 = q from by rw [Int.toNat_natCast]; exact hq.symm)
    have eq1 : (u : Int) % 65536 = (q : Int) := by omega
    have eq2 : IntKind.u16.wrap (u : Int) = (q : Int) := by rw [IntKind.wrap_u16]; omega
    clear hq hok
    clear hk0 hk1
    go_enter Try.func46, Try.ntmps46
    go_wp2
    obtain ⟨W, hW⟩ : ∃ x, x = w.alloc (.cells #[.int .i64 kind, .int .u64 (u : Int), .int .i64 n, .slice A' p.length c'] 42) := ⟨_, rfl⟩
    obtain ⟨s, hs⟩ : ∃ s, s = w.heap.size := ⟨_, rfl⟩
    rw [← hW] at KN HR K0 ⊢
    rw [← hs] at KN hg ⊢
    have HS := Lib.hid hs
    clear hW hs
    have c1 := KN.out.cell 1
    simp at c1
    go_region_held3 (fun w' => w'.cell? ⟨s, 1, none⟩ = some (.int .u64 (u : Int))) (first | assumption) ((go_at_call 62; refine (rdTake16_any (HR.out.below (below_drewN (Below.refl _ _) 1))).mono ?_; rintro e w1 ⟨ha, hr, hk⟩; obtain ⟨m, hm⟩ : ∃ m, m = (r.take 2).1 := ⟨_, rfl⟩; rw [← hm] at ha; obtain rfl : e = .returned (.int .u16 m) := ha; have HM := Lib.hid hm; have HK := Lib.hid (show Keeps (fun k => k = g) W w1 from ⟨hk.os, hk.tape, hk.output, hk.size, hk.block⟩); have RR := Lib.hid hr; clear hr hk hm; have x1 := (KN.out.keeps HK.out (show ¬ s = g by omega)).cell 1; simp at x1))
    go_wp2
    go_ret
    refine ⟨?_, by rw [HE.out]; exact RR.out, K0.out.trans HK.out (fun i hi => .inl hi)⟩
    rw [HE.out]
    show Ending.returned (.bool ((m : Int) == (q : Int))) = Ending.returned (.bool (decide ((r.take 2).1 = _)))
    rw [EQ.out, ← HM.out, bool_nat]
  by_cases hk2 : kind = 2
  · have k0 : (kind == 0) = false := by simp; omega
    have k1 : (kind == 1) = false := by simp; omega
    have k2 : (kind == 2) = true := by simp; omega
    have k3 : (kind == 3) = false := by simp; omega
    have k4 : (kind == 4) = false := by simp; omega
    have k5 : (kind == 5) = false := by simp; omega
    have HE := Lib.hid (show Rd.back r ⟨kind, v, n, p⟩ = (decide ((r.take 4).1 = v.toNat % 4294967296), (r.take 4).2) from by unfold Rd.back; simp only; rw [if_neg (show ¬ kind = 0 from hk0), if_neg (show ¬ kind = 1 from hk1), if_pos (show kind = 2 from hk2)])
    obtain ⟨u, rfl⟩ := Int.eq_ofNat_of_zero_le hok.v0
    obtain ⟨q, hq⟩ : ∃ q, q = u % 4294967296 := ⟨_, rfl⟩
    have XQ := Lib.hid (show q < 4294967296 from by omega)
    have EQ := Lib.hid (show ((u : Int)).toNat % 4294967296 = q from by rw [Int.toNat_natCast]; exact hq.symm)
    have eq1 : (u : Int) % 4294967296 = (q : Int) := by omega
    have eq2 : IntKind.u32.wrap (u : Int) = (q : Int) := by rw [IntKind.wrap_u32']; omega
    clear hq hok
    clear hk0 hk1 hk2
    go_enter Try.func46, Try.ntmps46
    go_wp2
    obtain ⟨W, hW⟩ : ∃ x, x = w.alloc (.cells #[.int .i64 kind, .int .u64 (u : Int), .int .i64 n, .slice A' p.length c'] 42) := ⟨_, rfl⟩
    obtain ⟨s, hs⟩ : ∃ s, s = w.heap.size := ⟨_, rfl⟩
    rw [← hW] at KN HR K0 ⊢
    rw [← hs] at KN hg ⊢
    have HS := Lib.hid hs
    clear hW hs
    have c1 := KN.out.cell 1
    simp at c1
    go_region_held3 (fun w' => w'.cell? ⟨s, 1, none⟩ = some (.int .u64 (u : Int))) (first | assumption) ((go_at_call 49; refine (rdTake32_any (HR.out.below (below_drewN (Below.refl _ _) 1))).mono ?_; rintro e w1 ⟨ha, hr, hk⟩; obtain ⟨m, hm⟩ : ∃ m, m = (r.take 4).1 := ⟨_, rfl⟩; rw [← hm] at ha; obtain rfl : e = .returned (.int .u32 m) := ha; have HM := Lib.hid hm; have HK := Lib.hid (show Keeps (fun k => k = g) W w1 from ⟨hk.os, hk.tape, hk.output, hk.size, hk.block⟩); have RR := Lib.hid hr; clear hr hk hm; have x1 := (KN.out.keeps HK.out (show ¬ s = g by omega)).cell 1; simp at x1))
    go_wp2
    go_ret
    refine ⟨?_, by rw [HE.out]; exact RR.out, K0.out.trans HK.out (fun i hi => .inl hi)⟩
    rw [HE.out]
    show Ending.returned (.bool ((m : Int) == (q : Int))) = Ending.returned (.bool (decide ((r.take 4).1 = _)))
    rw [EQ.out, ← HM.out, bool_nat]
  by_cases hk3 : kind = 3
  · have k0 : (kind == 0) = false := by simp; omega
    have k1 : (kind == 1) = false := by simp; omega
    have k2 : (kind == 2) = false := by simp; omega
    have k3 : (kind == 3) = true := by simp; omega
    have k4 : (kind == 4) = false := by simp; omega
    have k5 : (kind == 5) = false := by simp; omega
    have HE := Lib.hid (show Rd.back r ⟨kind, v, n, p⟩ = (decide ((r.take 8).1 = v.toNat), (r.take 8).2) from by unfold Rd.back; simp only; rw [if_neg (show ¬ kind = 0 from hk0), if_neg (show ¬ kind = 1 from hk1), if_neg (show ¬ kind = 2 from hk2), if_pos (show kind = 3 from hk3)])
    obtain ⟨q, rfl⟩ := Int.eq_ofNat_of_zero_le hok.v0
    have XQ := Lib.hid (show q < 18446744073709551616 from by have := (show (q : Int) < 18446744073709551616 from hok.v1); omega)
    have EQ := Lib.hid (show ((q : Int)).toNat = q from by omega)
    clear hok
    clear hk0 hk1 hk2 hk3
    go_enter Try.func46, Try.ntmps46
    go_wp2
    obtain ⟨W, hW⟩ : ∃ x, x = w.alloc (.cells #[.int .i64 kind, .int .u64 (q : Int), .int .i64 n, .slice A' p.length c'] 42) := ⟨_, rfl⟩
    obtain ⟨s, hs⟩ : ∃ s, s = w.heap.size := ⟨_, rfl⟩
    rw [← hW] at KN HR K0 ⊢
    rw [← hs] at KN hg ⊢
    have HS := Lib.hid hs
    clear hW hs
    have c1 := KN.out.cell 1
    simp at c1
    go_region_held3 (fun w' => w'.cell? ⟨s, 1, none⟩ = some (.int .u64 (q : Int))) (first | assumption) ((go_at_call 68; refine (rdTake64_any (HR.out.below (below_drewN (Below.refl _ _) 1))).mono ?_; rintro e w1 ⟨ha, hr, hk⟩; obtain ⟨m, hm⟩ : ∃ m, m = (r.take 8).1 := ⟨_, rfl⟩; rw [← hm] at ha; obtain rfl : e = .returned (.int .u64 m) := ha; have HM := Lib.hid hm; have HK := Lib.hid (show Keeps (fun k => k = g) W w1 from ⟨hk.os, hk.tape, hk.output, hk.size, hk.block⟩); have RR := Lib.hid hr; clear hr hk hm; have x1 := (KN.out.keeps HK.out (show ¬ s = g by omega)).cell 1; simp at x1))
    go_wp2
    go_ret
    refine ⟨?_, by rw [HE.out]; exact RR.out, K0.out.trans HK.out (fun i hi => .inl hi)⟩
    rw [HE.out]
    show Ending.returned (.bool ((m : Int) == (q : Int))) = Ending.returned (.bool (decide ((r.take 8).1 = _)))
    rw [EQ.out, ← HM.out, bool_nat]
  by_cases hk4 : kind = 4
  · have k0 : (kind == 0) = false := by simp; omega
    have k1 : (kind == 1) = false := by simp; omega
    have k2 : (kind == 2) = false := by simp; omega
    have k3 : (kind == 3) = false := by simp; omega
    have k4 : (kind == 4) = true := by simp; omega
    have k5 : (kind == 5) = false := by simp; omega
    have HE := Lib.hid (show Rd.back r ⟨kind, v, n, p⟩ = (decide ((r.int n n).1 = n), (r.int n n).2) from by unfold Rd.back; simp only; rw [if_neg (show ¬ kind = 0 from hk0), if_neg (show ¬ kind = 1 from hk1), if_neg (show ¬ kind = 2 from hk2), if_neg (show ¬ kind = 3 from hk3), if_pos (show kind = 4 from hk4)])
    clear hok
    clear hk0 hk1 hk2 hk3 hk4
    go_enter Try.func46, Try.ntmps46
    go_wp2
    obtain ⟨W, hW⟩ : ∃ x, x = w.alloc (.cells #[.int .i64 kind, .int .u64 v, .int .i64 n, .slice A' p.length c'] 42) := ⟨_, rfl⟩
    obtain ⟨s, hs⟩ : ∃ s, s = w.heap.size := ⟨_, rfl⟩
    rw [← hW] at KN HR K0 ⊢
    rw [← hs] at KN hg ⊢
    have HS := Lib.hid hs
    clear hW hs
    have c2 := KN.out.cell 2
    simp at c2
    go_region_held3 (fun w' => w'.cell? ⟨s, 2, none⟩ = some (.int .i64 n)) (first | assumption) ((go_at_call 47; refine (rdInt_any (HR.out.below (below_drewN (Below.refl _ _) 1)) n n).mono ?_; rintro e w1 ⟨ha, hr, hk⟩; obtain ⟨m, hm⟩ : ∃ m, m = (r.int n n).1 := ⟨_, rfl⟩; rw [← hm] at ha; obtain rfl : e = .returned (.int .i64 m) := ha; have HM := Lib.hid hm; have HK := Lib.hid (show Keeps (fun k => k = g) W w1 from ⟨hk.os, hk.tape, hk.output, hk.size, hk.block⟩); have RR := Lib.hid hr; clear hr hk hm; have x1 := (KN.out.keeps HK.out (show ¬ s = g by omega)).cell 2; simp at x1))
    go_wp2
    go_ret
    refine ⟨?_, by rw [HE.out]; exact RR.out, K0.out.trans HK.out (fun i hi => .inl hi)⟩
    rw [HE.out]
    show Ending.returned (.bool (m == n)) = Ending.returned (.bool (decide ((r.int n n).1 = n)))
    rw [← HM.out, bool_int]
  by_cases hk5 : kind = 5
  · have k0 : (kind == 0) = false := by simp; omega
    have k1 : (kind == 1) = false := by simp; omega
    have k2 : (kind == 2) = false := by simp; omega
    have k3 : (kind == 3) = false := by simp; omega
    have k4 : (kind == 4) = false := by simp; omega
    have k5 : (kind == 5) = true := by simp; omega
    have HE := Lib.hid (show Rd.back r ⟨kind, v, n, p⟩ = (decide ((r.bytes p.length).1 = p), (r.bytes p.length).2) from by unfold Rd.back; simp only; rw [if_neg (show ¬ kind = 0 from hk0), if_neg (show ¬ kind = 1 from hk1), if_neg (show ¬ kind = 2 from hk2), if_neg (show ¬ kind = 3 from hk3), if_neg (show ¬ kind = 4 from hk4), if_pos (show kind = 5 from hk5)])
    clear hok
    clear hk0 hk1 hk2 hk3 hk4 hk5
    go_enter Try.func46, Try.ntmps46
    go_wp2
    obtain ⟨W, hW⟩ : ∃ x, x = w.alloc (.cells #[.int .i64 kind, .int .u64 v, .int .i64 n, .slice A' p.length c'] 42) := ⟨_, rfl⟩
    obtain ⟨s, hs⟩ : ∃ s, s = w.heap.size := ⟨_, rfl⟩
    rw [← hW] at KN HR K0 ⊢
    rw [← hs] at KN hg ⊢
    have HS := Lib.hid hs
    clear hW hs
    have c3 := KN.out.cell 3
    simp at c3
    obtain ⟨sp, hsp⟩ : ∃ sp : ByteArray, sp = ⟨p.toArray⟩ := ⟨_, rfl⟩
    have HSP := Lib.hid hsp
    have z0 : (convert 23 9 (.slice A' p.length c')).run Try.prog W.drew = .ok (.string sp) W.drew := by rw [hsp]; exact conv_text (HPA.out W.drew K0.out.drew) c'
    have z1 : (convert 23 9 (.slice A' p.length c')).run Try.prog W = .ok (.string sp) W := by rw [hsp]; exact conv_text (HPA.out W K0.out) c'
    clear hsp
    go_region_held3 (fun w' => w'.cell? ⟨s, 3, none⟩ = some (.slice A' p.length c') ∧ (convert 23 9 (.slice A' p.length c')).run Try.prog w' = .ok (.string sp) w') (first | assumption | exact ⟨c3, z1⟩ | exact ⟨c3, z0⟩ | exact ⟨x1, x2⟩) ((go_at_call 63; refine (rdText_any (HR.out.below (below_drewN (Below.refl _ _) 1)) p.length).mono ?_; rintro e w1 ⟨ha, hr, hk⟩; obtain ⟨m, hm⟩ : ∃ m, m = (r.bytes p.length).1 := ⟨_, rfl⟩; rw [← hm] at ha; obtain ⟨sm, hsm⟩ : ∃ sm : ByteArray, sm = ⟨m.toArray⟩ := ⟨_, rfl⟩; obtain rfl : e = .returned (.string sm) := (by rw [hsm]; exact ha); have HM := Lib.hid hm; have HSM := Lib.hid hsm; have HK := Lib.hid (show Keeps (fun k => k = g) W w1 from ⟨hk.os, hk.tape, hk.output, hk.size, hk.block⟩); have RR := Lib.hid hr; clear ha hr hk hm hsm; have x1 := (KN.out.keeps HK.out (show ¬ s = g by omega)).cell 3; simp at x1; have x2 : (convert 23 9 (.slice A' p.length c')).run Try.prog w1 = .ok (.string sp) w1 := (by rw [HSP.out]; exact conv_text (HPA.out w1 (K0.out.trans HK.out (fun i hi => .inl hi))) c')))
    go_wp2
    go_ret
    refine ⟨?_, by rw [HE.out]; exact RR.out, K0.out.trans HK.out (fun i hi => .inl hi)⟩
    rw [HE.out]
    show Ending.returned (.bool (sm.toList == sp.toList)) = Ending.returned (.bool (decide ((r.bytes p.length).1 = p)))
    rw [← HM.out, HSM.out, HSP.out, text_eq]
  have k0 : (kind == 0) = false := by simp; omega
  have k1 : (kind == 1) = false := by simp; omega
  have k2 : (kind == 2) = false := by simp; omega
  have k3 : (kind == 3) = false := by simp; omega
  have k4 : (kind == 4) = false := by simp; omega
  have k5 : (kind == 5) = false := by simp; omega
  have HE := Lib.hid (show Rd.back r ⟨kind, v, n, p⟩ = (decide ((r.bytes p.length).1 = p), (r.bytes p.length).2) from by unfold Rd.back; simp only; rw [if_neg (show ¬ kind = 0 from hk0), if_neg (show ¬ kind = 1 from hk1), if_neg (show ¬ kind = 2 from hk2), if_neg (show ¬ kind = 3 from hk3), if_neg (show ¬ kind = 4 from hk4), if_neg (show ¬ kind = 5 from hk5)])
  clear hok
  clear hk0 hk1 hk2 hk3 hk4 hk5
  go_enter Try.func46, Try.ntmps46
  go_wp2
  obtain ⟨W, hW⟩ : ∃ x, x = w.alloc (.cells #[.int .i64 kind, .int .u64 v, .int .i64 n, .slice A' p.length c'] 42) := ⟨_, rfl⟩
  obtain ⟨s, hs⟩ : ∃ s, s = w.heap.size := ⟨_, rfl⟩
  rw [← hW] at KN HR K0 ⊢
  rw [← hs] at KN hg ⊢
  have HS := Lib.hid hs
  clear hW hs
  have c3 := KN.out.cell 3
  simp at c3
  go_region_held3 (fun w' => w'.cell? ⟨s, 3, none⟩ = some (.slice A' p.length c')) (first | assumption) (first | (go_at_call 48; refine (rdBytes_any (HR.out.below (below_drewN (Below.refl _ _) 1)) p.length).mono ?_; rintro e w1 ⟨ha, hr, hk⟩; obtain ⟨m, hm⟩ : ∃ m, m = (r.bytes p.length).1 := ⟨_, rfl⟩; rw [← hm] at ha; obtain ⟨v, rfl, ho⟩ := ha; obtain ⟨A1, c1, rfl, _, hr1⟩ := BOwns.slice ho; have RB := Lib.hid hr1; have HM := Lib.hid hm; have HK := Lib.hid (show Keeps (fun k => k = g) W w1 from ⟨hk.os, hk.tape, hk.output, hk.size, hk.block⟩); have RR := Lib.hid hr; clear ho hr1 hr hk hm; have x1 := (KN.out.keeps HK.out (show ¬ s = g by omega)).cell 3; simp at x1; have HPW := Lib.hid (HPA.out w1 (K0.out.trans HK.out (fun i hi => .inl hi)))) | (go_at_call 19; refine (equal_any RB.out HPW.out (show m.length ≤ 140737488355328 by (have h1 := r.bytes_len p.length; rw [← HM.out] at h1; obtain ⟨_, _, h2⟩ := HR.out; have := h2.small; omega))).mono ?_; rintro e w2 ⟨rfl, k2, hk2⟩; have x3 : w2.cell? ⟨s, 3, none⟩ = some (.slice A' p.length c') := (by rw [hk2]; exact x1); have HK2 := Lib.hid hk2; clear hk2))
  go_wp2
  go_ret
  refine ⟨?_, by rw [HE.out, HK2.out]; exact RR.out.below (below_drewN (Below.refl _ _) k2), by rw [HK2.out]; exact (K0.out.trans HK.out (fun i hi => .inl hi)).drewN k2⟩
  rw [HE.out]
  show Ending.returned (.bool (decide (m = p))) = Ending.returned (.bool (decide ((r.bytes p.length).1 = p)))
  rw [← HM.out]
end Go.Proofs.Ytoeccclaaogihaa
