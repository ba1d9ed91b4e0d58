/- The law's helper step: what a call of the program's reader answers (printed by a program of this claim's own). -/
import Derived.Test.YtoeccclaaogihaaRdr7
import Derived.Test.YtoeccclaaogihaaRdr8
namespace Go.Proofs.Ytoeccclaaogihaa
open Go.RowKit

/-- A step of a script. -/
structure Sp where
  kind : Int
  low : Int
  high : Int
  most : Int
def Sp.v (s : Sp) : Value := .agg #[.int .i64 s.kind, .int .i64 s.low, .int .i64 s.high, .int .i64 s.most]
/-- What a call of a reader answers, by the plain reader. -/
def Rd.call (r : Rd) (s : Sp) : (Int × List UInt8) × Rd :=
  if s.kind = 0 then (((r.take 1).1, []), (r.take 1).2)
  else if s.kind = 1 then (((r.take 2).1, []), (r.take 2).2)
  else if s.kind = 2 then (((r.take 4).1, []), (r.take 4).2)
  else if s.kind = 3 then (((r.take 8).1, []), (r.take 8).2)
  else if s.kind = 4 then ((IntKind.u64.wrap (r.int s.low s.high).1, []), (r.int s.low s.high).2)
  else if s.kind = 5 then ((0, (r.bytes s.most).1), (r.bytes s.most).2)
  else if s.kind = 6 then ((0, (r.bytes s.most).1), (r.bytes s.most).2)
  else if s.kind = 7 then ((IntKind.u64.wrap r.left, []), r)
  else if s.kind = 8 then ((IntKind.u64.wrap r.f, []), r)
  else if s.kind = 9 then ((IntKind.u64.wrap r.end_, []), r)
  else ((0, []), r)
theorem Rd.take_lt (r : Rd) (n : Nat) : (r.take n).1 < 256 ^ n := by
  unfold Rd.take Rd.step
  by_cases hf : r.f = 0
  · rw [if_pos hf]
    cases h : takeF n (r.l.drop r.at_) with
    | error m => exact Nat.pow_pos (by decide)
    | ok x => exact (takeF_lt h).1
  · rw [if_neg hf]; exact Nat.pow_pos (by decide)

theorem Rd.step_l {α : Type} (r : Rd) (n : α) (x : Except Int (α × Nat)) : (r.step n x).2.l = r.l := by
  unfold Rd.step
  split
  · split <;> rfl
  · rfl
theorem Rd.call_l (r : Rd) (s : Sp) : (r.call s).2.l = r.l := by
  unfold Rd.call
  repeat' split
  all_goals first | rfl | exact Rd.step_l _ _ _

theorem Rd.bytes_len (r : Rd) (m : Int) : (r.bytes m).1.length ≤ r.l.length := by
  unfold Rd.bytes Rd.step
  split
  · cases hb : blockF m (r.l.drop r.at_) with
    | error e => exact Nat.zero_le _
    | ok x =>
      have := (blockF_len hb).1
      rw [List.length_drop] at this
      show x.1.length ≤ _
      omega
  · exact Nat.zero_le _
theorem Rd.call_len (r : Rd) (s : Sp) : (r.call s).1.2.length ≤ r.l.length := by
  unfold Rd.call
  repeat' split
  all_goals first | exact Nat.zero_le _ | exact Rd.bytes_len _ _

/-- Bytes that lie in memory which w had not yet stay, while only what w had is written. -/
def Lies (w w' : World) (A : Option Addr) (p : List UInt8) : Prop := ∀ w'', Keeps (fun k => k < w.heap.size) w' w'' → BReads w'' w''.heap.size A p
theorem Lies.nil (w w' : World) : Lies w w' none [] := fun _ _ => Reads.none_
theorem Lies.own {w w' : World} {base n c : Nat} {A : Option Addr} {p : List UInt8} (h : BOwns w' base (.slice A n c) p) (hb : w.heap.size ≤ base) : Lies w w' A p := fun w'' hk => by
  have h2 := h.keeps hk (fun i hi h => by omega)
  exact (h.lies h2).more hk.size
theorem Lies.of {w w' : World} {g : Nat} {p : List UInt8} (h : BReads w' w'.heap.size (some ⟨g, 0, none⟩) p) (hg : w.heap.size ≤ g) : Lies w w' (some ⟨g, 0, none⟩) p := fun w'' hk =>
  ⟨h.1, fun hp => by
    obtain ⟨b, o, e, hb, hc⟩ := h.2 hp
    injection e with e
    injection e with e1 e2 _
    subst e1; subst e2
    exact ⟨g, 0, rfl, Nat.lt_of_lt_of_le hb hk.size, fun j u hu => (World.cell?_of_block (hk.block g hb (by omega))).trans (hc j u hu)⟩⟩
theorem Lies.on {w w' w'' : World} {A : Option Addr} {p : List UInt8} (h : Lies w w' A p) (hk : Keeps (fun k => k < w.heap.size) w' w'') : Lies w w'' A p := fun w3 hk3 => h w3 (hk.trans hk3 (fun i hi => .inl hi))
theorem Lies.less {w v w' : World} {A : Option Addr} {p : List UInt8} (h : Lies w w' A p) (hs : v.heap.size ≤ w.heap.size) : Lies v w' A p := fun w3 hk3 => h w3 (hk3.mono (fun i hi => .inl (by omega)))
def StepPostA (w : World) (g : Nat) (x : (Int × List UInt8) × Rd) (e : Ending) (w' : World) : Prop :=
  ∃ A c, e = .returned (.tuple #[.int .u64 x.1.1, .slice A x.1.2.length c]) ∧ Lies w w' A x.1.2 ∧ RdIs w' g x.2 ∧ Keeps (fun k => k = g) w w'
def StepPost (w : World) (g : Nat) (x : (Int × List UInt8) × Rd) (e : Ending) (w' : World) : Prop :=
  ∃ A c, e = .returned (.tuple #[.int .u64 x.1.1, .slice A x.1.2.length c]) ∧ BReads w' w'.heap.size A x.1.2 ∧ RdIs w' g x.2 ∧ Keeps (fun k => k = g) w w'
theorem StepPost.out {w : World} {g : Nat} {x : (Int × List UInt8) × Rd} {e : Ending} {w' : World} (h : StepPost w g x e w') :
    ∃ A c, e = .returned (.tuple #[.int .u64 x.1.1, .slice A x.1.2.length c]) ∧ BReads w' w'.heap.size A x.1.2 ∧ RdIs w' g x.2 ∧ Keeps (fun k => k = g) w w' := h
theorem Keeps.alloc1 {S : Nat → Prop} {w w' : World} {o : Obj} (h : Keeps S (w.alloc o) w') (hs : ∀ i, S i → i < w.heap.size) : Keeps S w w' :=
  ((Keeps.refl S w).alloc o).trans h (fun i hi => .inl hi)

theorem step_all {w : World} {g : Nat} {r : Rd} (h : RdIs w g r) (s : Sp) :
    Calls Try.prog 40 #[.pointer (some ⟨g, 0, none⟩), s.v] w (StepPostA w g (r.call s)) := by
  obtain ⟨kind, low, high, most⟩ := s
  unfold Sp.v
  simp only
  have H := Lib.hid h
  have hg := h.lt
  have HR := Lib.hid (h.below ((Below.refl _ w).alloc (Nat.le_refl _) (.cells #[.int .i64 kind, .int .i64 low, .int .i64 high, .int .i64 most] 54)))
  clear h
  by_cases hk0 : kind = 0
  · have k0 : (kind == 0) = true := by simp; omega
    have k1 : (kind == 1) = false := by simp; omega
    have k2 : (kind == 2) = false := by simp; omega
    have k3 : (kind == 3) = false := by simp; omega
    have k4 : (kind == 4) = false := by simp; omega
    have k5 : (kind == 5) = false := by simp; omega
    have k6 : (kind == 6) = false := by simp; omega
    have k7 : (kind == 7) = false := by simp; omega
    have k8 : (kind == 8) = false := by simp; omega
    have k9 : (kind == 9) = false := by simp; omega
    have HE := Lib.hid (show Rd.call r ⟨kind, low, high, most⟩ = ((((r.take 1).1 : Int), []), (r.take 1).2) from by unfold Rd.call; simp only; rw [if_pos (show kind = 0 from hk0)])
    clear hk0
    go_enter Try.func40, Try.ntmps40
    go_wp2_with fail
    have hlt := r.take_lt 1
    refine (rdTake8_any HR.out).mono ?_
    rintro e w1 ⟨ha, hr, hk⟩
    obtain ⟨n, hn⟩ : ∃ n, n = (r.take 1).1 := ⟨_, rfl⟩
    rw [← hn] at ha hlt
    obtain rfl : e = .returned (.int .u8 n) := ha
    have R1 := Lib.hid hr
    have K1 := Lib.hid (hk.alloc1 (fun i hi => by subst hi; exact hg))
    have HN := Lib.hid hn
    have hnl : (n : Int) < 256 := by omega
    clear hr hk hn hlt
    go_wp2
    go_ret2
    exact ⟨none, 0, by rw [HE.out, ← HN.out]; rfl, by rw [HE.out]; exact Lies.nil _ _, by rw [HE.out]; exact R1.out, K1.out⟩
  by_cases hk1 : kind = 1
  · have k0 : (kind == 0) = false := by simp; omega
    have k1 : (kind == 1) = true := by simp; omega
    have k2 : (kind == 2) = false := by simp; omega
    have k3 : (kind == 3) = false := by simp; omega
    have k4 : (kind == 4) = false := by simp; omega
    have k5 : (kind == 5) = false := by simp; omega
    have k6 : (kind == 6) = false := by simp; omega
    have k7 : (kind == 7) = false := by simp; omega
    have k8 : (kind == 8) = false := by simp; omega
    have k9 : (kind == 9) = false := by simp; omega
    have HE := Lib.hid (show Rd.call r ⟨kind, low, high, most⟩ = ((((r.take 2).1 : Int), []), (r.take 2).2) from by unfold Rd.call; simp only; rw [if_neg (show ¬ kind = 0 from hk0), if_pos (show kind = 1 from hk1)])
    by_cases hlow : 0 < low
    · clear hk0 hk1
      go_enter Try.func40, Try.ntmps40
      go_wp2_with fail
      have hlt := r.take_lt 2
      refine (rdTakeW_any HR.out).mono ?_
      rintro e w1 ⟨ha, hr, hk⟩
      obtain ⟨n, hn⟩ : ∃ n, n = (r.take 2).1 := ⟨_, rfl⟩
      rw [← hn] at ha hlt
      obtain rfl : e = .returned (.int .u16 n) := ha
      have R1 := Lib.hid hr
      have K1 := Lib.hid (hk.alloc1 (fun i hi => by subst hi; exact hg))
      have HN := Lib.hid hn
      have hnl : (n : Int) < 65536 := by omega
      clear hr hk hn hlt
      go_wp2
      go_ret2
      exact ⟨none, 0, by rw [HE.out, ← HN.out]; rfl, by rw [HE.out]; exact Lies.nil _ _, by rw [HE.out]; exact R1.out, K1.out⟩
    · clear hk0 hk1
      go_enter Try.func40, Try.ntmps40
      go_wp2_with fail
      have hlt := r.take_lt 2
      refine (rdTake16_any HR.out).mono ?_
      rintro e w1 ⟨ha, hr, hk⟩
      obtain ⟨n, hn⟩ : ∃ n, n = (r.take 2).1 := ⟨_, rfl⟩
      rw [← hn] at ha hlt
      obtain rfl : e = .returned (.int .u16 n) := ha
      have R1 := Lib.hid hr
      have K1 := Lib.hid (hk.alloc1 (fun i hi => by subst hi; exact hg))
      have HN := Lib.hid hn
      have hnl : (n : Int) < 65536 := by omega
      clear hr hk hn hlt
      go_wp2
      go_ret2
      exact ⟨none, 0, by rw [HE.out, ← HN.out]; rfl, by rw [HE.out]; exact Lies.nil _ _, by rw [HE.out]; exact R1.out, K1.out⟩
  by_cases hk2 : kind = 2
  · have k0 : (kind == 0) = false := by simp; omega
    have k1 : (kind == 1) = false := by simp; omega
    have k2 : (kind == 2) = true := by simp; omega
    have k3 : (kind == 3) = false := by simp; omega
    have k4 : (kind == 4) = false := by simp; omega
    have k5 : (kind == 5) = false := by simp; omega
    have k6 : (kind == 6) = false := by simp; omega
    have k7 : (kind == 7) = false := by simp; omega
    have k8 : (kind == 8) = false := by simp; omega
    have k9 : (kind == 9) = false := by simp; omega
    have HE := Lib.hid (show Rd.call r ⟨kind, low, high, most⟩ = ((((r.take 4).1 : Int), []), (r.take 4).2) from by unfold Rd.call; simp only; rw [if_neg (show ¬ kind = 0 from hk0), if_neg (show ¬ kind = 1 from hk1), if_pos (show kind = 2 from hk2)])
    clear hk0 hk1 hk2
    go_enter Try.func40, Try.ntmps40
    go_wp2_with fail
    have hlt := r.take_lt 4
    refine (rdTake32_any HR.out).mono ?_
    rintro e w1 ⟨ha, hr, hk⟩
    obtain ⟨n, hn⟩ : ∃ n, n = (r.take 4).1 := ⟨_, rfl⟩
    rw [← hn] at ha hlt
    obtain rfl : e = .returned (.int .u32 n) := ha
    have R1 := Lib.hid hr
    have K1 := Lib.hid (hk.alloc1 (fun i hi => by subst hi; exact hg))
    have HN := Lib.hid hn
    have hnl : (n : Int) < 4294967296 := by omega
    clear hr hk hn hlt
    go_wp2
    go_ret2
    exact ⟨none, 0, by rw [HE.out, ← HN.out]; rfl, by rw [HE.out]; exact Lies.nil _ _, by rw [HE.out]; exact R1.out, K1.out⟩
  by_cases hk3 : kind = 3
  · have k0 : (kind == 0) = false := by simp; omega
    have k1 : (kind == 1) = false := by simp; omega
    have k2 : (kind == 2) = false := by simp; omega
    have k3 : (kind == 3) = true := by simp; omega
    have k4 : (kind == 4) = false := by simp; omega
    have k5 : (kind == 5) = false := by simp; omega
    have k6 : (kind == 6) = false := by simp; omega
    have k7 : (kind == 7) = false := by simp; omega
    have k8 : (kind == 8) = false := by simp; omega
    have k9 : (kind == 9) = false := by simp; omega
    have HE := Lib.hid (show Rd.call r ⟨kind, low, high, most⟩ = ((((r.take 8).1 : Int), []), (r.take 8).2) from by unfold Rd.call; simp only; rw [if_neg (show ¬ kind = 0 from hk0), if_neg (show ¬ kind = 1 from hk1), if_neg (show ¬ kind = 2 from hk2), if_pos (show kind = 3 from hk3)])
    clear hk0 hk1 hk2 hk3
    go_enter Try.func40, Try.ntmps40
    go_wp2_with fail
    have hlt := r.take_lt 8
    refine (rdTake64_any HR.out).mono ?_
    rintro e w1 ⟨ha, hr, hk⟩
    obtain ⟨n, hn⟩ : ∃ n, n = (r.take 8).1 := ⟨_, rfl⟩
    rw [← hn] at ha hlt
    obtain rfl : e = .returned (.int .u64 n) := ha
    have R1 := Lib.hid hr
    have K1 := Lib.hid (hk.alloc1 (fun i hi => by subst hi; exact hg))
    have HN := Lib.hid hn
    have hnl : (n : Int) < 18446744073709551616 := by omega
    clear hr hk hn hlt
    go_wp2
    go_ret2
    exact ⟨none, 0, by rw [HE.out, ← HN.out]; rfl, by rw [HE.out]; exact Lies.nil _ _, by rw [HE.out]; exact R1.out, K1.out⟩
  by_cases hk4 : kind = 4
  · have k0 : (kind == 0) = false := by simp; omega
    have k1 : (kind == 1) = false := by simp; omega
    have k2 : (kind == 2) = false := by simp; omega
    have k3 : (kind == 3) = false := by simp; omega
    have k4 : (kind == 4) = true := by simp; omega
    have k5 : (kind == 5) = false := by simp; omega
    have k6 : (kind == 6) = false := by simp; omega
    have k7 : (kind == 7) = false := by simp; omega
    have k8 : (kind == 8) = false := by simp; omega
    have k9 : (kind == 9) = false := by simp; omega
    have HE := Lib.hid (show Rd.call r ⟨kind, low, high, most⟩ = ((IntKind.u64.wrap (r.int low high).1, []), (r.int low high).2) from by unfold Rd.call; simp only; rw [if_neg (show ¬ kind = 0 from hk0), if_neg (show ¬ kind = 1 from hk1), if_neg (show ¬ kind = 2 from hk2), if_neg (show ¬ kind = 3 from hk3), if_pos (show kind = 4 from hk4)])
    clear hk0 hk1 hk2 hk3 hk4
    go_enter Try.func40, Try.ntmps40
    go_wp2_with fail
    refine (rdInt_any HR.out low high).mono ?_
    rintro e w1 ⟨ha, hr, hk⟩
    obtain ⟨n, hn⟩ : ∃ n, n = (r.int low high).1 := ⟨_, rfl⟩
    rw [← hn] at ha
    obtain rfl : e = .returned (.int .i64 n) := ha
    have R1 := Lib.hid hr
    have K1 := Lib.hid (hk.alloc1 (fun i hi => by subst hi; exact hg))
    have HN := Lib.hid hn
    clear hr hk hn
    go_wp2
    go_ret2
    exact ⟨none, 0, by rw [HE.out, ← HN.out]; rfl, by rw [HE.out]; exact Lies.nil _ _, by rw [HE.out]; exact R1.out, K1.out⟩
  by_cases hk5 : kind = 5
  · have k0 : (kind == 0) = false := by simp; omega
    have k1 : (kind == 1) = false := by simp; omega
    have k2 : (kind == 2) = false := by simp; omega
    have k3 : (kind == 3) = false := by simp; omega
    have k4 : (kind == 4) = false := by simp; omega
    have k5 : (kind == 5) = true := by simp; omega
    have k6 : (kind == 6) = false := by simp; omega
    have k7 : (kind == 7) = false := by simp; omega
    have k8 : (kind == 8) = false := by simp; omega
    have k9 : (kind == 9) = false := by simp; omega
    have HE := Lib.hid (show Rd.call r ⟨kind, low, high, most⟩ = ((0, (r.bytes most).1), (r.bytes most).2) from by unfold Rd.call; simp only; rw [if_neg (show ¬ kind = 0 from hk0), if_neg (show ¬ kind = 1 from hk1), if_neg (show ¬ kind = 2 from hk2), if_neg (show ¬ kind = 3 from hk3), if_neg (show ¬ kind = 4 from hk4), if_pos (show kind = 5 from hk5)])
    clear hk0 hk1 hk2 hk3 hk4 hk5
    go_enter Try.func40, Try.ntmps40
    go_wp2_with fail
    refine (rdText_any HR.out most).mono ?_
    rintro e w1 ⟨ha, hr, hk⟩
    obtain ⟨p, hp⟩ : ∃ p, p = (r.bytes most).1 := ⟨_, rfl⟩
    rw [← hp] at ha
    obtain rfl : e = .returned (.string ⟨p.toArray⟩) := ha
    have R1 := Lib.hid hr
    have K1 := Lib.hid (hk.alloc1 (fun i hi => by subst hi; exact hg))
    have HP := Lib.hid hp
    clear hr hk hp
    obtain ⟨s, hs⟩ : ∃ s : ByteArray, s = ⟨p.toArray⟩ := ⟨_, rfl⟩
    rw [← hs]
    have HS := Lib.hid hs
    clear hs
    have kc := conv_bytes w1 s
    have B1 := Lib.hid (bytesWorld_below w1 5 s)
    have R2 := Lib.hid (bytesWorld_reads w1 5 s)
    go_wp2
    go_ret2
    have ep : s.data.toList = p := by rw [HS.out]
    have hl := str_length s
    rw [ep] at hl
    exact ⟨_, _, by rw [HE.out, ← HP.out]; show _ = Ending.returned (.tuple #[.int .u64 0, .slice _ p.length _]); rw [hl]; rfl, by rw [HE.out, ← HP.out]; rw [← ep]; exact Lies.of R2.out K1.out.size, by rw [HE.out]; exact R1.out.below B1.out, K1.out.trans (Keeps.of_below B1.out (fun _ => False)) (fun _ h => h.elim)⟩
  by_cases hk6 : kind = 6
  · have k0 : (kind == 0) = false := by simp; omega
    have k1 : (kind == 1) = false := by simp; omega
    have k2 : (kind == 2) = false := by simp; omega
    have k3 : (kind == 3) = false := by simp; omega
    have k4 : (kind == 4) = false := by simp; omega
    have k5 : (kind == 5) = false := by simp; omega
    have k6 : (kind == 6) = true := by simp; omega
    have k7 : (kind == 7) = false := by simp; omega
    have k8 : (kind == 8) = false := by simp; omega
    have k9 : (kind == 9) = false := by simp; omega
    have HE := Lib.hid (show Rd.call r ⟨kind, low, high, most⟩ = ((0, (r.bytes most).1), (r.bytes most).2) from by unfold Rd.call; simp only; rw [if_neg (show ¬ kind = 0 from hk0), if_neg (show ¬ kind = 1 from hk1), if_neg (show ¬ kind = 2 from hk2), if_neg (show ¬ kind = 3 from hk3), if_neg (show ¬ kind = 4 from hk4), if_neg (show ¬ kind = 5 from hk5), if_pos (show kind = 6 from hk6)])
    clear hk0 hk1 hk2 hk3 hk4 hk5 hk6
    go_enter Try.func40, Try.ntmps40
    go_wp2_with fail
    refine (rdBytes_any HR.out most).mono ?_
    rintro e w1 ⟨⟨v, rfl, ho⟩, hr, hk⟩
    have R1 := Lib.hid hr
    have O1 := Lib.hid ho
    have K1 := Lib.hid (hk.alloc1 (fun i hi => by subst hi; exact hg))
    have SZ := Lib.hid (show w.heap.size ≤ (w.alloc (.cells #[.int .i64 kind, .int .i64 low, .int .i64 high, .int .i64 most] 54)).heap.size from by simp)
    clear ho hr hk
    go_wp2
    go_ret2
    obtain ⟨A1, c1, rfl, _, hr1⟩ := O1.out.slice
    exact ⟨A1, c1, by rw [HE.out]; rfl, by rw [HE.out]; exact Lies.own O1.out SZ.out, by rw [HE.out]; exact R1.out, K1.out⟩
  by_cases hk7 : kind = 7
  · have k0 : (kind == 0) = false := by simp; omega
    have k1 : (kind == 1) = false := by simp; omega
    have k2 : (kind == 2) = false := by simp; omega
    have k3 : (kind == 3) = false := by simp; omega
    have k4 : (kind == 4) = false := by simp; omega
    have k5 : (kind == 5) = false := by simp; omega
    have k6 : (kind == 6) = false := by simp; omega
    have k7 : (kind == 7) = true := by simp; omega
    have k8 : (kind == 8) = false := by simp; omega
    have k9 : (kind == 9) = false := by simp; omega
    have HE := Lib.hid (show Rd.call r ⟨kind, low, high, most⟩ = ((IntKind.u64.wrap r.left, []), r) from by unfold Rd.call; simp only; rw [if_neg (show ¬ kind = 0 from hk0), if_neg (show ¬ kind = 1 from hk1), if_neg (show ¬ kind = 2 from hk2), if_neg (show ¬ kind = 3 from hk3), if_neg (show ¬ kind = 4 from hk4), if_neg (show ¬ kind = 5 from hk5), if_neg (show ¬ kind = 6 from hk6), if_pos (show kind = 7 from hk7)])
    clear hk0 hk1 hk2 hk3 hk4 hk5 hk6 hk7
    go_enter Try.func40, Try.ntmps40
    go_wp2_with fail
    refine (left_any HR.out).mono ?_
    rintro e w1 h1
    obtain ⟨rfl, m, rfl⟩ : e = .returned (.int .i64 r.left) ∧ ∃ m, w1 = (w.alloc (.cells #[.int .i64 kind, .int .i64 low, .int .i64 high, .int .i64 most] 54)).drewN m := h1
    have R1 := Lib.hid (HR.out.keeps ((Keeps.refl (fun _ => False) _).drewN m) (fun _ h => h.elim))
    have K1 := Lib.hid (((Keeps.refl (fun k => k = g) w).alloc (.cells #[.int .i64 kind, .int .i64 low, .int .i64 high, .int .i64 most] 54)).drewN m)
    obtain ⟨w1, hw⟩ : ∃ x, x = (w.alloc (.cells #[.int .i64 kind, .int .i64 low, .int .i64 high, .int .i64 most] 54)).drewN m := ⟨_, rfl⟩
    rw [← hw] at R1 K1 ⊢
    clear hw
    obtain ⟨n, hn⟩ : ∃ n, n = r.left := ⟨_, rfl⟩
    rw [← hn]
    have HN := Lib.hid hn
    clear hn
    go_wp2
    go_ret2
    exact ⟨none, 0, by rw [HE.out, ← HN.out]; rfl, by rw [HE.out]; exact Lies.nil _ _, by rw [HE.out]; exact R1.out, K1.out⟩
  by_cases hk8 : kind = 8
  · have k0 : (kind == 0) = false := by simp; omega
    have k1 : (kind == 1) = false := by simp; omega
    have k2 : (kind == 2) = false := by simp; omega
    have k3 : (kind == 3) = false := by simp; omega
    have k4 : (kind == 4) = false := by simp; omega
    have k5 : (kind == 5) = false := by simp; omega
    have k6 : (kind == 6) = false := by simp; omega
    have k7 : (kind == 7) = false := by simp; omega
    have k8 : (kind == 8) = true := by simp; omega
    have k9 : (kind == 9) = false := by simp; omega
    have HE := Lib.hid (show Rd.call r ⟨kind, low, high, most⟩ = ((IntKind.u64.wrap r.f, []), r) from by unfold Rd.call; simp only; rw [if_neg (show ¬ kind = 0 from hk0), if_neg (show ¬ kind = 1 from hk1), if_neg (show ¬ kind = 2 from hk2), if_neg (show ¬ kind = 3 from hk3), if_neg (show ¬ kind = 4 from hk4), if_neg (show ¬ kind = 5 from hk5), if_neg (show ¬ kind = 6 from hk6), if_neg (show ¬ kind = 7 from hk7), if_pos (show kind = 8 from hk8)])
    clear hk0 hk1 hk2 hk3 hk4 hk5 hk6 hk7 hk8
    go_enter Try.func40, Try.ntmps40
    go_wp2_with fail
    refine (fault_any HR.out).mono ?_
    rintro e w1 ⟨rfl, rfl⟩
    have K1 := Lib.hid ((Keeps.refl (fun k => k = g) w).alloc (.cells #[.int .i64 kind, .int .i64 low, .int .i64 high, .int .i64 most] 54))
    obtain ⟨n, hn⟩ : ∃ n, n = r.f := ⟨_, rfl⟩
    rw [← hn]
    have HN := Lib.hid hn
    clear hn
    have R1 := HR
    go_wp2
    go_ret2
    exact ⟨none, 0, by rw [HE.out, ← HN.out]; rfl, by rw [HE.out]; exact Lies.nil _ _, by rw [HE.out]; exact R1.out, K1.out⟩
  by_cases hk9 : kind = 9
  · have k0 : (kind == 0) = false := by simp; omega
    have k1 : (kind == 1) = false := by simp; omega
    have k2 : (kind == 2) = false := by simp; omega
    have k3 : (kind == 3) = false := by simp; omega
    have k4 : (kind == 4) = false := by simp; omega
    have k5 : (kind == 5) = false := by simp; omega
    have k6 : (kind == 6) = false := by simp; omega
    have k7 : (kind == 7) = false := by simp; omega
    have k8 : (kind == 8) = false := by simp; omega
    have k9 : (kind == 9) = true := by simp; omega
    have HE := Lib.hid (show Rd.call r ⟨kind, low, high, most⟩ = ((IntKind.u64.wrap r.end_, []), r) from by unfold Rd.call; simp only; rw [if_neg (show ¬ kind = 0 from hk0), if_neg (show ¬ kind = 1 from hk1), if_neg (show ¬ kind = 2 from hk2), if_neg (show ¬ kind = 3 from hk3), if_neg (show ¬ kind = 4 from hk4), if_neg (show ¬ kind = 5 from hk5), if_neg (show ¬ kind = 6 from hk6), if_neg (show ¬ kind = 7 from hk7), if_neg (show ¬ kind = 8 from hk8), if_pos (show kind = 9 from hk9)])
    clear hk0 hk1 hk2 hk3 hk4 hk5 hk6 hk7 hk8 hk9
    go_enter Try.func40, Try.ntmps40
    go_wp2_with fail
    refine (end_any HR.out).mono ?_
    rintro e w1 h1
    obtain ⟨rfl, m, rfl⟩ : e = .returned (.int .i64 r.end_) ∧ ∃ m, w1 = (w.alloc (.cells #[.int .i64 kind, .int .i64 low, .int .i64 high, .int .i64 most] 54)).drewN m := h1
    have R1 := Lib.hid (HR.out.keeps ((Keeps.refl (fun _ => False) _).drewN m) (fun _ h => h.elim))
    have K1 := Lib.hid (((Keeps.refl (fun k => k = g) w).alloc (.cells #[.int .i64 kind, .int .i64 low, .int .i64 high, .int .i64 most] 54)).drewN m)
    obtain ⟨w1, hw⟩ : ∃ x, x = (w.alloc (.cells #[.int .i64 kind, .int .i64 low, .int .i64 high, .int .i64 most] 54)).drewN m := ⟨_, rfl⟩
    rw [← hw] at R1 K1 ⊢
    clear hw
    obtain ⟨n, hn⟩ : ∃ n, n = r.end_ := ⟨_, rfl⟩
    rw [← hn]
    have HN := Lib.hid hn
    clear hn
    go_wp2
    go_ret2
    exact ⟨none, 0, by rw [HE.out, ← HN.out]; rfl, by rw [HE.out]; exact Lies.nil _ _, by rw [HE.out]; exact R1.out, K1.out⟩
  have k0 : (kind == 0) = false := by simp; omega
  have k1 : (kind == 1) = false := by simp; omega
  have k2 : (kind == 2) = false := by simp; omega
  have k3 : (kind == 3) = false := by simp; omega
  have k4 : (kind == 4) = false := by simp; omega
  have k5 : (kind == 5) = false := by simp; omega
  have k6 : (kind == 6) = false := by simp; omega
  have k7 : (kind == 7) = false := by simp; omega
  have k8 : (kind == 8) = false := by simp; omega
  have k9 : (kind == 9) = false := by simp; omega
  have HE := Lib.hid (show Rd.call r ⟨kind, low, high, most⟩ = ((0, []), r) from by unfold Rd.call; simp only; rw [if_neg (show ¬ kind = 0 from hk0), if_neg (show ¬ kind = 1 from hk1), if_neg (show ¬ kind = 2 from hk2), if_neg (show ¬ kind = 3 from hk3), if_neg (show ¬ kind = 4 from hk4), if_neg (show ¬ kind = 5 from hk5), if_neg (show ¬ kind = 6 from hk6), if_neg (show ¬ kind = 7 from hk7), if_neg (show ¬ kind = 8 from hk8), if_neg (show ¬ kind = 9 from hk9)])
  clear hk0 hk1 hk2 hk3 hk4 hk5 hk6 hk7 hk8 hk9
  go_enter Try.func40, Try.ntmps40
  go_wp2
  go_ret2
  exact ⟨none, 0, by rw [HE.out]; rfl, by rw [HE.out]; exact Lies.nil _ _, by rw [HE.out]; exact HR.out, (Keeps.refl (fun k => k = g) w).alloc _⟩
theorem step_any {w : World} {g : Nat} {r : Rd} (h : RdIs w g r) (s : Sp) :
    Calls Try.prog 40 #[.pointer (some ⟨g, 0, none⟩), s.v] w (StepPost w g (r.call s)) :=
  (step_all h s).mono fun _ _ ⟨A, c, he, hl, hr, hk⟩ => ⟨A, c, he, hl _ (Keeps.refl _ _), hr, hk⟩
end Go.Proofs.Ytoeccclaaogihaa
