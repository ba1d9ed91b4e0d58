/- Contracts and plain laws that this claim leans on, laid together: Wal3, Ent9, PlainD, Ent10, Ent2, Ent3a, Ent3b, Ent3c, Ent3d, Ent3, Ent11, Ent7, Ent8, Ent12, EntL2, Wal4. -/
import Derived.Test.YtoecgkdipgaaeaaG08
import Derived.Test.YtoecgkdipgaaeaaG05
import Derived.Test.YtoecgkdipgaaeaaG03
import Derived.Deep.Cut
import Derived.Test.YtoecgkdipgaaeaaG06
import Derived.Sort.CutIn
set_option linter.all false
set_option linter.unusedVariables false
set_option linter.unusedSimpArgs false
set_option linter.unnecessarySimpa false
/- Logs: Group, by contract. -/
namespace Go.Proofs.Ytoecgkdipgaaeaa
open Go.RowKit

/-- What a Group has come to. -/
def GroupPost (gl : Nat) (d : Dk) (i : Nat) (p : Pt) (es : List En) (w : World) (e : Ending) (w' : World) : Prop :=
  (e = .returned (.int .i64 100) ∧ (∃ x ∈ es, ¬ x.may) ∧ Below w.heap.size w w') ∨
  ((∀ x ∈ es, x.may) ∧ ∃ (K : Nat) (A : Option Addr) (c : Nat), K ≤ es.length ∧ e = .returned (.int .i64 80) ∧ d.armed = true ∧ (∀ j : Nat, j < K → p.done + j < p.fd) ∧ p.fd ≤ p.done + K ∧
    Turn (lgItem gl d i) w (lgItem gl (d.put i { p with a := { p.a with A := A, c := c, l := p.a.l ++ framesF (es.take K) }, done := p.done + K }) i) w') ∨
  ((∀ x ∈ es, x.may) ∧ (d.armed = true → p.done + es.length < p.fd) ∧ ∃ (A : Option Addr) (c : Nat), e = .returned (.int .i64 0) ∧
    Turn (lgItem gl d i) w (lgItem gl (d.put i { p with a := { p.a with A := A, c := c, l := p.a.l ++ framesF es, safe := (p.a.l ++ framesF es).length }, done := p.done + es.length + 1 }) i) w')
set_option maxRecDepth 100000 in
set_option maxHeartbeats 3200000 in
theorem lGroup_any {w : World} {gl : Nat} {d : Dk} (i : Nat) {p : Pt} (h : (lgItem gl d i).P w) (hn : d.ps.length ≤ 16) (hi0 : d.ps[i]? = some p) (hd0 : 0 ≤ p.done) (hd1 : p.done ≤ 100000000000000000)
    {A : Option Addr} {c : Nat} {es : List En} (hS : Stays (lgItem gl d i).own w (fun w' => kEn.Sl w' w.heap.size A es)) (hks : ∀ e ∈ es, e.key.size ≤ 140737488355328 ∧ e.value.length ≤ 140737488355328)
    (htot : p.a.l.length + 5009 * es.length ≤ 140737488355328) :
    Calls Try.prog 49 #[.pointer (some ⟨gl, 0, none⟩), .slice A es.length c] w (GroupPost gl d i p es w) := by
  have H := Lib.hid h
  have HI := Lib.hid hi0
  have HS := Lib.hid hS
  have HKS := Lib.hid hks
  have heslen : es.length ≤ 100000000000000 := by omega
  have HSL := Lib.hid hS.self
  clear h hi0 hS hks
  go_enter Try.func49, Try.ntmps49
  go_wp2
  go_loopw [13] (fun t wr => ∃ (K : Nat), t = .int .i64 K ∧ K ≤ es.length ∧ Hid (∀ x ∈ es.take K, x.may) ∧ Hid (Below w.heap.size w wr)) (fun t _ => es.length - (intOf t).toNat)
  case atStart => exact ⟨0, rfl, by omega, Lib.hid (fun x hx => by simp at hx), Lib.hid (Below.refl _ _)⟩
  case round =>
    obtain ⟨K, rfl, hK, hM, hB⟩ := hrel
    by_cases hlt : (K : Int) < (es.length : Int)
    · have hKN : K < es.length := by omega
      obtain ⟨bb, off, Av, cv, rfl, hbb, hints, s0, s1, s2, s3, s4, s5, hval⟩ := en_at (HSL.out.below hB.out) hKN
      have hbr : bb < wr.heap.size := Nat.lt_of_lt_of_le hbb hB.out.size
      have hks := HKS.out _ (List.getElem_mem hKN)
      have HMX : Hid ((es[K]).may → ∀ x ∈ es.take (K + 1), x.may) := Lib.hid (fun hm x hx => by
        rw [List.take_succ_eq_append_getElem hKN] at hx
        rcases List.mem_append.1 hx with h | h
        · exact hM.out x h
        · simp only [List.mem_cons, List.not_mem_nil, or_false] at h; subst h; exact hm)
      have HNO : Hid (¬ (es[K]).may → ∃ x ∈ es, ¬ x.may) := Lib.hid (fun h => ⟨_, List.getElem_mem hKN, h⟩)
      obtain ⟨x, hx⟩ : ∃ x, x = es[K] := ⟨_, rfl⟩
      rw [← hx] at s0 s1 s2 s3 s4 s5 hks HMX HNO
      obtain ⟨k, s, n, key, v, dd⟩ := x
      simp only at s0 s1 s2 s3 s4 s5 hks
      have BA := Lib.hid (hB.out.alloc hB.out.size (.cells #[.int .i64 k, .int .i64 s, .int .i64 n, .string key, .slice Av v.length cv, .bool dd] 31))
      have hKi : K + 1 ≤ es.length := by omega
      clear hx hval hints hbb hB
      go_wp2_with fail
      refine (check_any (A := Av) (c := cv) ⟨k, s, n, key, v, dd⟩ hks.1 hks.2).mono ?_
      rintro e w1 ⟨rfl, hb⟩
      have B1 := Lib.hid (BA.out.trans (hb.mono BA.out.size))
      clear hb BA s0 s1 s2 s3 s4 s5
      by_cases hm : En.may ⟨k, s, n, key, v, dd⟩
      · rw [En.chk_ok hm]
        have HM2 := Lib.hid (HMX.out hm)
        clear hm HMX HNO hM
        go_wp2
        exact ⟨⟨K + 1, by go_num, hKi, HM2, B1⟩, by simp [intOf]; omega⟩
      · rw [En.chk_no hm]
        have HN := Lib.hid (HNO.out hm)
        clear hm HMX HNO hM
        go_wp2
        go_ret
        exact .inl ⟨rfl, HN.out, B1.out⟩
    · obtain rfl : K = es.length := by omega
      have HALL := Lib.hid (show ∀ x ∈ es, x.may from by have := hM.out; rwa [List.take_length] at this)
      have HP := Lib.hid (Item.go H.out hB.out)
      have hw := lWrite_any (c := c) i HP.out hn HI.out hd0 hd1 (A := A) (es := es) (fun w' hk => by
        have hk0 := HS.out w' (fun k hlt hn => (hk k (Nat.lt_of_lt_of_le hlt hB.out.size) hn).trans (hB.out.block k hlt))
        exact hk0.more hB.out.size) HKS.out htot
      have HW := Lib.hid hw
      clear hw hM HSL
      go_wp2_with fail
      refine HW.out.mono ?_
      rintro e w1 ⟨K, A', c', m, hKle, rfl, _, hD, hcase, t⟩
      have T1 := Lib.hid (Turn.pre hB.out t)
      have HD := Lib.hid hD
      have HC := Lib.hid hcase
      clear t hD hcase HW
      by_cases hm : m = 0
      · subst hm
        have hKe : K = es.length := by
          rcases HC.out with h | ⟨h, _⟩ | ⟨h, _⟩
          · exact h.2
          · omega
          · omega
        subst hKe
        obtain ⟨a1, ha1⟩ : ∃ a1 : Ar, a1 = { p.a with A := A', c := c', l := p.a.l ++ framesF (es.take es.length) } := ⟨_, rfl⟩
        rw [← ha1] at T1
        rw [List.take_length] at ha1
        have HA1 := Lib.hid ha1
        have HI2 := Lib.hid (put_get (q := { p with a := a1, done := p.done + es.length }) HI.out)
        have hn' : (d.put i { p with a := a1, done := p.done + es.length }).ps.length ≤ 16 := by unfold Dk.put; simpa using hn
        have hdk0 : 0 ≤ p.done + (es.length : Int) := by omega
        have hdk1 : p.done + (es.length : Int) ≤ 1000000000000000000 := by omega
        clear ha1
        by_cases hdn : d.armed = true ∧ p.fd ≤ p.done + es.length
        · have hx := lSync_down i T1.out.p hn' HI2.out hdk0 hdk1 hdn.1 hdn.2
          have HX := Lib.hid hx
          have HDN := Lib.hid hdn
          clear hx hdn hn'
          go_wp2_with fail
          refine HX.out.mono ?_
          rintro e w2 ⟨rfl, hb⟩
          have T2 := Lib.hid (T1.out.go hb)
          clear hb
          go_wp2
          go_ret
          refine .inr (.inl ⟨HALL.out, es.length, A', c', Nat.le_refl _, rfl, HDN.out.1, fun j hj => HD.out j hj HDN.out.1, HDN.out.2, ?_⟩)
          rw [List.take_length, ← HA1.out]
          exact T2.out
        · have hgo : (d.put i { p with a := a1, done := p.done + es.length }).armed = true → ({ p with a := a1, done := p.done + es.length } : Pt).done < p.fd := fun ha => by
            have : ¬ p.fd ≤ p.done + es.length := fun h => hdn ⟨ha, h⟩
            show p.done + (es.length : Int) < p.fd
            omega
          have hx := lSync_any i T1.out.p hn' HI2.out hdk0 hdk1 hgo
          have HX := Lib.hid hx
          have HGO := Lib.hid hgo
          clear hx hdn hn' hgo
          go_wp2_with fail
          refine HX.out.mono ?_
          rintro e w2 ⟨b2, rfl, hg2, rfl, t2⟩
          have T2 := Lib.hid (T1.out.trans t2)
          clear t2 hg2
          go_wp2
          go_ret
          refine .inr (.inr ⟨HALL.out, fun ha => HGO.out ha, A', c', rfl, ?_⟩)
          have := T2.out
          rw [put_put, HA1.out] at this
          exact this
      · have hne : (m != 0) = true := by rw [bne_iff_ne]; exact hm
        have HC2 := Lib.hid (show m = 80 ∧ K < es.length ∧ d.armed = true ∧ p.fd ≤ p.done + K from by
          rcases HC.out with h | ⟨h, hK, hno⟩ | h
          · exact absurd h.1 hm
          · exact absurd (HALL.out _ (List.getElem_mem hK)) hno
          · exact h)
        have hm80 := HC2.out.1
        clear hm HC
        go_wp2
        go_ret
        exact .inr (.inl ⟨HALL.out, K, A', c', hKle, rfl, HC2.out.2.2.1, fun j hj => HD.out j hj HC2.out.2.2.1, HC2.out.2.2.2, T1.out⟩)
end Go.Proofs.Ytoecgkdipgaaeaa
/- number and row of the reference, by contract. -/
namespace Go.Proofs.Ytoecgkdipgaaeaa
open Go.RowKit

/-- The number that stands at a place, and the place behind it; -1: none does. -/
def numR (most : Int) (b : List UInt8) (a : Nat) : Int × Int := match numberF 0 most (b.drop a) with | .ok (n, k) => (n, ((a + k : Nat) : Int)) | .error _ => (0, -1)
theorem numR_ok {most n : Int} {b : List UInt8} {a k : Nat} (h : numberF 0 most (b.drop a) = .ok (n, k)) : numR most b a = (n, ((a + k : Nat) : Int)) := by unfold numR; rw [h]
theorem numR_err {most e : Int} {b : List UInt8} {a : Nat} (h : numberF 0 most (b.drop a) = .error e) : numR most b a = (0, -1) := by unfold numR; rw [h]
theorem numF_bad {most N u : Int} {I : Nat} {x : Except Int (Int × Nat)} (h : x = if u < 0 ∨ most < u then .error 21 else .ok (u, I)) (e : u = N) (hb : N < 0 ∨ most < N) : x = .error 21 := by subst e; rw [h, if_pos hb]
theorem numF_good {most N u : Int} {I : Nat} {x : Except Int (Int × Nat)} (h : x = if u < 0 ∨ most < u then .error 21 else .ok (u, I)) (e : u = N) (hb : ¬ (N < 0 ∨ most < N)) : x = .ok (N, I) := by subst e; rw [h, if_neg hb]
theorem half_wrap {V : Nat} (h : V < 18446744073709551616) : IntKind.u64.wrap ((V : Int) / 2) = (V : Int) / 2 := by rw [wrap_u64]; omega
theorem neg_one (q : Nat) : -(q : Int) - 1 < 0 := by omega
theorem not_bad {q : Nat} {most : Int} (h : ¬ most < (q : Int)) : ¬ ((q : Int) < 0 ∨ most < (q : Int)) := by omega
theorem cast_succ' {a I P : Nat} (h : P = a + I) : ((a + (I + 1) : Nat) : Int) = (P : Int) + 1 := by omega
def AnsN (x : Int × Int) (w : World) (e : Ending) (w' : World) : Prop := e = .returned (.tuple #[.int .i64 x.1, .int .i64 x.2]) ∧ w' = w
end Go.Proofs.Ytoecgkdipgaaeaa
/- What the reference's Decode reads, in plain words: numbers and rows at a place, -1 for none. -/
namespace Go.Proofs.Ytoecgkdipgaaeaa
open Go.RowKit

def numA (most : Int) (b : List UInt8) (t : Int) : Int × Int := if t < 0 then (0, -1) else numR most b t.toNat
def rowA (most : Int) (b : List UInt8) (t : Int) : List UInt8 × Int :=
  if (numA most b t).2 < 0 ∨ (b.length : Int) - (numA most b t).2 < (numA most b t).1 then ([], -1)
  else ((b.drop (numA most b t).2.toNat).take (numA most b t).1.toNat, (numA most b t).2 + (numA most b t).1)
theorem numA_neg {most : Int} {b : List UInt8} {t : Int} (h : t < 0) : numA most b t = (0, -1) := if_pos h
theorem rowA_neg {most : Int} {b : List UInt8} {t : Int} (h : t < 0) : rowA most b t = ([], -1) := by
  unfold rowA; rw [numA_neg h, if_pos (.inl (by decide))]
theorem numA_back {most n : Int} {b : List UInt8} {t t' : Int} (h : numA most b t = (n, t')) (h' : 0 ≤ t') : 0 ≤ t ∧ b.drop t.toNat = intF n ++ b.drop t'.toNat ∧ 0 ≤ n ∧ n ≤ most ∧ t' ≤ b.length := by
  unfold numA at h
  by_cases h0 : t < 0
  · rw [if_pos h0] at h; injection h with _ h2; omega
  rw [if_neg h0] at h
  unfold numR at h
  split at h
  · rename_i m k hk
    injection h with e1 e2
    subst e1
    have h1 := numberF_ok hk
    have h2 := numberF_back hk
    rw [List.length_drop] at h1
    refine ⟨by omega, ?_, h1.1, h1.2.1, by omega⟩
    rw [h2, ← e2, Int.toNat_natCast, ← List.drop_drop, List.take_append_drop]
  · injection h with _ h2; omega
theorem numA_bd {most : Int} {b : List UInt8} {t : Int} (h0 : 0 ≤ most) : -1 ≤ (numA most b t).2 ∧ (numA most b t).2 ≤ b.length ∧ 0 ≤ (numA most b t).1 ∧ (numA most b t).1 ≤ most := by
  by_cases h : 0 ≤ (numA most b t).2
  · have := numA_back (n := (numA most b t).1) (t' := (numA most b t).2) rfl h
    omega
  · have e : numA most b t = (0, -1) := by
      unfold numA at h ⊢
      by_cases h0 : t < 0
      · rw [if_pos h0]
      rw [if_neg h0] at h ⊢
      unfold numR at h ⊢
      split at h
      · exact absurd (Int.natCast_nonneg _) h
      · rfl
    rw [e]
    refine ⟨by decide, ?_, by decide, h0⟩
    show (-1 : Int) ≤ _
    omega
theorem numA_there {most n t : Int} {b post : List UInt8} (h : b.drop t.toNat = intF n ++ post) (ht : 0 ≤ t) (hn : 0 ≤ n) (hm : n ≤ most) (h63 : n ≤ 9223372036854775807) : numA most b t = (n, t + (intF n).length) := by
  unfold numA
  rw [if_neg (by omega), numR_ok (k := (intF n).length) (n := n) (by rw [h]; exact numberF_there (by omega) h63 hn hm post)]
  congr 1; omega
theorem rowA_back {most : Int} {p b : List UInt8} {t t' : Int} (h : rowA most b t = (p, t')) (h' : 0 ≤ t') : 0 ≤ t ∧ b.drop t.toNat = intF p.length ++ p ++ b.drop t'.toNat ∧ (p.length : Int) ≤ most ∧ t' ≤ b.length := by
  obtain ⟨⟨n, f⟩, hx⟩ : ∃ x, x = numA most b t := ⟨_, rfl⟩
  unfold rowA at h
  rw [← hx] at h
  simp only at h
  split at h
  · injection h with _ h2; omega
  rename_i hc
  injection h with e1 e2
  obtain ⟨a1, a2, a3, a4, a5⟩ := numA_back hx.symm (by omega)
  have hl : p.length = n.toNat := by rw [← e1, List.length_take, List.length_drop]; omega
  refine ⟨a1, ?_, by omega, by omega⟩
  rw [a2, List.append_assoc, hl, show ((n.toNat : Nat) : Int) = n from by omega]
  congr 1
  rw [← e1, ← e2, show (f + n).toNat = f.toNat + n.toNat from by omega, ← List.drop_drop, List.take_append_drop]
theorem rowA_len {most : Int} {b : List UInt8} {t : Int} : (rowA most b t).1.length ≤ b.length := by
  unfold rowA
  split
  · simp
  · simp only [List.length_take, List.length_drop]; omega
theorem rowA_bd {most : Int} {b : List UInt8} {t : Int} (hm : 0 ≤ most) : -1 ≤ (rowA most b t).2 ∧ (rowA most b t).2 ≤ b.length := by
  have := numA_bd (b := b) (t := t) hm
  unfold rowA
  split
  · simp only; exact ⟨by decide, by omega⟩
  · simp only; omega
theorem rowA_there {most t : Int} {p b post : List UInt8} (h : b.drop t.toNat = intF p.length ++ p ++ post) (ht : 0 ≤ t) (hm : (p.length : Int) ≤ most) (h63 : (p.length : Int) ≤ 9223372036854775807) : rowA most b t = (p, t + (intF p.length ++ p).length) := by
  have h1 := numA_there (by rw [h, List.append_assoc]) ht (by omega) hm h63
  unfold rowA
  rw [h1]
  simp only
  have hd : b.drop (t + (intF p.length).length).toNat = p ++ post := by
    rw [show (t + ((intF p.length).length : Int)).toNat = t.toNat + (intF p.length).length from by omega]
    exact drop_more (by rw [h, List.append_assoc])
  have hl := congrArg List.length hd
  rw [List.length_drop, List.length_append] at hl
  by_cases hp : p.length = 0
  · have := List.eq_nil_of_length_eq_zero hp
    subst this
    have hd0 := congrArg List.length h
    rw [List.length_drop] at hd0
    have hL : 0 < (intF (([] : List UInt8).length : Nat)).length := List.length_pos_iff.2 (intF_ne _)
    simp only [List.length_append, List.length_nil] at hd0 hL
    rw [if_neg (by simp only [List.length_nil]; omega), hd]
    simp
  rw [if_neg (by omega), hd, Int.toNat_natCast, List.take_left, List.length_append]
  congr 1; omega
/-- The reading has told whatever entry has these bytes; and an entry that it tells, if the reading went to the end, has them. -/
def RTells (b : List UInt8) (x : En) (t : Int) : Prop := (∀ y : En, y.may → y.enc = b → y = x ∧ t = b.length) ∧ (x.may → t = b.length → x.enc = b)
theorem RTells.no {b : List UInt8} {x : En} {t : Int} (h : RTells b x t) (hn : ¬ (x.may ∧ t = b.length)) : ¬ ∃ y : En, y.may ∧ y.enc = b := by
  rintro ⟨y, hm, he⟩
  obtain ⟨rfl, h2⟩ := h.1 y hm he
  exact hn ⟨hm, h2⟩
theorem enc_cons {y : En} {x : UInt8} {r : List UInt8} (hm : y.may) (he : y.enc = x :: r) : y.kind = (x.toNat : Int) := by
  obtain ⟨r', hr⟩ := enc_head hm
  have hb := En.may_bounds hm
  rw [he] at hr
  injection hr with e _
  subst e
  rw [UInt8.toNat_ofNat_of_lt' (by show _ < 256; omega)]; omega
theorem rdec_nil : ¬ ∃ y : En, y.may ∧ y.enc = [] := by
  rintro ⟨y, hm, he⟩
  obtain ⟨r, hr⟩ := enc_head hm
  rw [he] at hr; cases hr
theorem rdec_x {x : UInt8} {r : List UInt8} (hx : ¬ (1 ≤ x.toNat ∧ x.toNat ≤ 6)) : ¬ ∃ y : En, y.may ∧ y.enc = x :: r := by
  rintro ⟨y, hm, he⟩
  have := enc_cons hm he
  have hb := En.may_bounds hm
  omega
theorem to_end {b : List UInt8} {t : Int} (h0 : 0 ≤ t) (ht : t ≤ b.length) (h : b.drop t.toNat = []) : t = b.length := by
  have := congrArg List.length h
  rw [List.length_drop, List.length_nil] at this; omega
theorem len_of {b x y : List UInt8} {t : Int} (h0 : 0 ≤ t) (h : b.drop t.toNat = x ++ y) : b.drop (t + x.length).toNat = y := by
  rw [show (t + (x.length : Int)).toNat = t.toNat + x.length from by omega]; exact drop_more h
theorem len_le {b x : List UInt8} {t : Int} (h0 : 0 ≤ t) (hx : x ≠ []) {y : List UInt8} (h : b.drop t.toNat = x ++ y) : t + x.length ≤ b.length := by
  have := congrArg List.length h
  rw [List.length_drop, List.length_append] at this
  have hp : 0 < x.length := List.length_pos_iff.2 hx
  omega
theorem row_ne (p : List UInt8) : intF p.length ++ p ≠ [] := by
  intro e
  exact intF_ne _ (List.append_eq_nil_iff.1 e).1
theorem key_eq (p : List UInt8) : intF (ByteArray.size ⟨p.toArray⟩ : Nat) ++ (⟨p.toArray⟩ : ByteArray).data.toList = intF p.length ++ p := by
  have : ByteArray.size ⟨p.toArray⟩ = p.length := by show p.toArray.size = _; simp
  rw [this]
theorem rdec_1 {b r p1 p2 : List UInt8} {t1 t2 : Int} (hb : b = 1 :: r) (h1 : rowA 255 b 1 = (p1, t1)) (h2 : rowA 4096 b t1 = (p2, t2)) : RTells b ⟨1, 0, 0, ⟨p1.toArray⟩, p2, false⟩ t2 := by
  refine ⟨fun y hm he => ?_, fun hm ht => ?_⟩
  · have hk := enc_cons hm (he.trans hb)
    obtain ⟨k, s, n, key, v, d⟩ := y
    obtain rfl : k = 1 := hk
    rw [may_1] at hm
    obtain ⟨_, hks, rfl, rfl, rfl, hv⟩ := hm
    have e : [1] ++ intF key.size ++ key.data.toList ++ intF v.length ++ v = b := he
    have hkl := str_length key
    have d1 : b.drop (1 : Int).toNat = intF key.data.toList.length ++ key.data.toList ++ (intF v.length ++ v) := by rw [hkl, ← e]; simp
    obtain ⟨rfl, rfl⟩ := pair_eq h1 (rowA_there d1 (by omega) (by omega) (by omega))
    have d2 : b.drop (1 + ((intF key.data.toList.length ++ key.data.toList).length : Int)).toNat = intF v.length ++ v ++ [] := by rw [len_of (by omega) d1, List.append_nil]
    obtain ⟨rfl, rfl⟩ := pair_eq h2 (rowA_there d2 (by omega) (by omega) (by omega))
    exact ⟨by rw [ba_eta], to_end (by omega) (len_le (by omega) (row_ne _) d2) (len_of (by omega) d2)⟩
  · obtain ⟨q1, q2, _, _⟩ := rowA_back h2 (by omega)
    obtain ⟨u1, u2, _, _⟩ := rowA_back h1 q1
    rw [q2, ht, Int.toNat_natCast, List.drop_length, List.append_nil] at u2
    show [1] ++ intF (ByteArray.size ⟨p1.toArray⟩ : Nat) ++ (⟨p1.toArray⟩ : ByteArray).data.toList ++ intF p2.length ++ p2 = b
    rw [List.append_assoc [1], key_eq, List.append_assoc, List.append_assoc, ← u2, hb]; rfl
theorem rdec_2 {b r p1 : List UInt8} {t1 : Int} (hb : b = 2 :: r) (h1 : rowA 255 b 1 = (p1, t1)) : RTells b ⟨2, 0, 0, ⟨p1.toArray⟩, [], false⟩ t1 := by
  refine ⟨fun y hm he => ?_, fun hm ht => ?_⟩
  · have hk := enc_cons hm (he.trans hb)
    obtain ⟨k, s, n, key, v, d⟩ := y
    obtain rfl : k = 2 := hk
    rw [may_2] at hm
    obtain ⟨_, hks, rfl, rfl, rfl, hv⟩ := hm
    obtain rfl := List.eq_nil_of_length_eq_zero hv
    have e : [2] ++ intF key.size ++ key.data.toList = b := he
    have hkl := str_length key
    have d1 : b.drop (1 : Int).toNat = intF key.data.toList.length ++ key.data.toList ++ [] := by rw [hkl, ← e]; simp
    obtain ⟨rfl, rfl⟩ := pair_eq h1 (rowA_there d1 (by omega) (by omega) (by omega))
    exact ⟨by rw [ba_eta], to_end (by omega) (len_le (by omega) (row_ne _) d1) (len_of (by omega) d1)⟩
  · obtain ⟨u1, u2, _, _⟩ := rowA_back h1 (by omega)
    rw [ht, Int.toNat_natCast, List.drop_length, List.append_nil] at u2
    show [2] ++ intF (ByteArray.size ⟨p1.toArray⟩ : Nat) ++ (⟨p1.toArray⟩ : ByteArray).data.toList = b
    rw [List.append_assoc [2], key_eq, ← u2, hb]; rfl
theorem enc_m {k s n : Int} {key : ByteArray} {v : List UInt8} {d : Bool} (hk : k = 3 ∨ k = 4 ∨ k = 6) : En.enc ⟨k, s, n, key, v, d⟩ = [UInt8.ofNat k.toNat] ++ intF s ++ intF n := by
  unfold En.enc
  rw [if_neg (by show ¬ k = 1; omega), if_neg (by show ¬ k = 2; omega), if_neg (by show ¬ k = 5; omega)]
theorem rdec_m {b r : List UInt8} {x : UInt8} {s n t1 t2 : Int} (hx : x.toNat = 3 ∨ x.toNat = 4 ∨ x.toNat = 6) (hb : b = x :: r) (h1 : numA 4611686018427387904 b 1 = (s, t1)) (h2 : numA 2147483647 b t1 = (n, t2)) :
    RTells b ⟨x.toNat, s, n, ⟨#[]⟩, [], false⟩ t2 := by
  have hof : UInt8.ofNat ((x.toNat : Int).toNat) = x := by rw [Int.toNat_natCast]; simp
  refine ⟨fun y hm he => ?_, fun hm ht => ?_⟩
  · have hk := enc_cons hm (he.trans hb)
    obtain ⟨k, s', n', key, v, d⟩ := y
    obtain rfl : k = (x.toNat : Int) := hk
    rw [enc_m (by omega)] at he
    rw [may_m (by omega)] at hm
    obtain ⟨hkz, _, _, _, _, rfl, hv⟩ := hm
    obtain rfl := List.eq_nil_of_length_eq_zero hv
    obtain rfl := str_empty hkz
    have d1 : b.drop (1 : Int).toNat = intF s' ++ intF n' := by rw [← he]; simp
    obtain ⟨rfl, rfl⟩ := pair_eq h1 (numA_there d1 (by omega) (by omega) (by omega) (by omega))
    have d2 : b.drop (1 + ((intF s).length : Int)).toNat = intF n' ++ [] := by rw [len_of (by omega) d1, List.append_nil]
    obtain ⟨rfl, rfl⟩ := pair_eq h2 (numA_there d2 (by omega) (by omega) (by omega) (by omega))
    exact ⟨rfl, to_end (by omega) (len_le (by omega) (intF_ne _) d2) (len_of (by omega) d2)⟩
  · obtain ⟨q1, q2, _, _, _⟩ := numA_back h2 (by omega)
    obtain ⟨u1, u2, _, _, _⟩ := numA_back h1 q1
    rw [q2, ht, Int.toNat_natCast, List.drop_length, List.append_nil] at u2
    rw [enc_m (by omega), hof, List.append_assoc, ← u2, hb]; rfl
theorem rdec_5c {b r p1 : List UInt8} {s t1 t2 : Int} (hb : b = 5 :: r) (h1 : rowA 255 b 1 = (p1, t1)) (h2 : numA 4611686018427387904 b t1 = (s, t2)) {y : En} (hm : y.may) (he : y.enc = b) :
    y = ⟨5, s, 0, ⟨p1.toArray⟩, y.value, y.dead⟩ ∧ 0 ≤ t2 ∧ b.drop t2.toNat = (if y.dead then (1 : UInt8) else 0) :: (intF y.value.length ++ y.value) ∧ y.value.length ≤ 4096 := by
  have hk := enc_cons hm (he.trans hb)
  obtain ⟨k, s', n', key, v, d⟩ := y
  obtain rfl : k = 5 := hk
  rw [may_5] at hm
  obtain ⟨_, hks, _, _, rfl, hv, _⟩ := hm
  have e : [5] ++ intF key.size ++ key.data.toList ++ intF s' ++ [if d then 1 else 0] ++ intF v.length ++ v = b := he
  have hkl := str_length key
  have d1 : b.drop (1 : Int).toNat = intF key.data.toList.length ++ key.data.toList ++ (intF s' ++ ((if d then (1 : UInt8) else 0) :: (intF v.length ++ v))) := by rw [hkl, ← e]; simp
  obtain ⟨rfl, rfl⟩ := pair_eq h1 (rowA_there d1 (by omega) (by omega) (by omega))
  have d2 := len_of (by omega) d1
  obtain ⟨rfl, rfl⟩ := pair_eq h2 (numA_there d2 (by omega) (by omega) (by omega) (by omega))
  exact ⟨by rw [ba_eta], by omega, len_of (by omega) d2, hv⟩
theorem rdec_5n {b r p1 : List UInt8} {s t1 t2 : Int} (hb : b = 5 :: r) (h1 : rowA 255 b 1 = (p1, t1)) (h2 : numA 4611686018427387904 b t1 = (s, t2)) (hn : t2 < 0) : ¬ ∃ y : En, y.may ∧ y.enc = b := by
  rintro ⟨y, hm, he⟩
  have := rdec_5c hb h1 h2 hm he; omega
theorem rdec_5l {b r p1 : List UInt8} {s t1 t2 : Int} (hb : b = 5 :: r) (h1 : rowA 255 b 1 = (p1, t1)) (h2 : numA 4611686018427387904 b t1 = (s, t2)) (hn : (b.length : Int) ≤ t2) : ¬ ∃ y : En, y.may ∧ y.enc = b := by
  rintro ⟨y, hm, he⟩
  obtain ⟨_, _, h, _⟩ := rdec_5c hb h1 h2 hm he
  rw [List.drop_of_length_le (by omega)] at h; cases h
theorem dead_at {b v : List UInt8} {K : Nat} {d : Bool} (hK : K < b.length) (h : b.drop K = (if d then (1 : UInt8) else 0) :: v) : b[K] = (if d then 1 else 0) ∧ b.drop (K + 1) = v := by
  rw [List.drop_eq_getElem_cons hK] at h
  injection h with e1 e2
  exact ⟨e1, e2⟩
theorem rdec_5b {b r p1 : List UInt8} {s t1 : Int} {K : Nat} (hb : b = 5 :: r) (h1 : rowA 255 b 1 = (p1, t1)) (h2 : numA 4611686018427387904 b t1 = (s, (K : Int))) (hK : K < b.length) (hn : 1 < b[K].toNat) : ¬ ∃ y : En, y.may ∧ y.enc = b := by
  rintro ⟨y, hm, he⟩
  obtain ⟨_, _, h, _⟩ := rdec_5c hb h1 h2 hm he
  rw [Int.toNat_natCast] at h
  rw [(dead_at hK h).1] at hn
  cases hd : y.dead <;> rw [hd] at hn <;> revert hn <;> decide
theorem rdec_5 {b r p1 p2 : List UInt8} {s t1 t4 : Int} {K : Nat} {d : Bool} (hb : b = 5 :: r) (h1 : rowA 255 b 1 = (p1, t1)) (h2 : numA 4611686018427387904 b t1 = (s, (K : Int))) (hK : K < b.length) (hd : b[K] = if d then 1 else 0)
    (h4 : rowA 4096 b ((K : Int) + 1) = (p2, t4)) : RTells b ⟨5, s, 0, ⟨p1.toArray⟩, p2, d⟩ t4 := by
  refine ⟨fun y hm he => ?_, fun hm ht => ?_⟩
  · obtain ⟨hy, _, h, hv⟩ := rdec_5c hb h1 h2 hm he
    rw [Int.toNat_natCast] at h
    obtain ⟨hd2, h3⟩ := dead_at hK h
    have hdd : y.dead = d := by
      rw [hd] at hd2
      revert hd2
      cases y.dead <;> cases d <;> decide
    have d4 : b.drop ((K : Int) + 1).toNat = intF y.value.length ++ y.value ++ [] := by rw [show ((K : Int) + 1).toNat = K + 1 from by omega, h3, List.append_nil]
    obtain ⟨e1, rfl⟩ := pair_eq h4 (rowA_there d4 (by omega) (by omega) (by omega))
    exact ⟨by rw [hy, e1, hdd], to_end (by omega) (len_le (by omega) (row_ne _) d4) (len_of (by omega) d4)⟩
  · obtain ⟨q1, q2, _, _⟩ := rowA_back h4 (by omega)
    obtain ⟨v1, v2, _, _, _⟩ := numA_back h2 (by omega)
    obtain ⟨u1, u2, _, _⟩ := rowA_back h1 v1
    rw [show ((K : Int) + 1).toNat = K + 1 from by omega, ht, Int.toNat_natCast, List.drop_length, List.append_nil] at q2
    rw [Int.toNat_natCast, List.drop_eq_getElem_cons hK, hd, q2] at v2
    rw [v2] at u2
    show [5] ++ intF (ByteArray.size ⟨p1.toArray⟩ : Nat) ++ (⟨p1.toArray⟩ : ByteArray).data.toList ++ intF s ++ [if d then 1 else 0] ++ intF p2.length ++ p2 = b
    rw [List.append_assoc [5], key_eq]
    rw [show b = 5 :: b.drop 1 from by rw [hb]; rfl]
    rw [show b.drop 1 = b.drop (1 : Int).toNat from rfl, u2]
    simp
end Go.Proofs.Ytoecgkdipgaaeaa
/- row of the reference, by contract. -/
namespace Go.Proofs.Ytoecgkdipgaaeaa
open Go.RowKit

/-- The row that stands at a place, in new memory, and the place behind it. -/
def AnsR (w : World) (x : List UInt8 × Int) (e : Ending) (w' : World) : Prop := ∃ A c, e = .returned (.tuple #[.slice A x.1.length c, .int .i64 x.2]) ∧ BOwns w' w.heap.size (.slice A x.1.length c) x.1 ∧ Below w.heap.size w w'
end Go.Proofs.Ytoecgkdipgaaeaa
/- The reference's words on kinds, by contract (printed by a program of this claim's own). -/
namespace Go.Proofs.Ytoecgkdipgaaeaa
open Go.RowKit

def keyedF (k : Int) : Bool := decide (k = 1 ∨ k = 2 ∨ k = 5)
def valuedF (k : Int) : Bool := decide (k = 1 ∨ k = 5)
def countedF (k : Int) : Bool := decide (k = 3 ∨ k = 4 ∨ k = 6)
def stampedF (k : Int) : Bool := decide (k = 3 ∨ k = 4 ∨ k = 6 ∨ k = 5)
theorem keyed_any {w : World} (k : Int) : Calls Try.prog 70 #[.int .i64 k] w fun e w' => e = .returned (.bool (keyedF k)) ∧ w = w' := by
  by_cases h1 : k = 1
  · subst h1
    go_enter Try.func70, Try.ntmps70
    go_wp2
    go_ret
    exact ⟨rfl, rfl⟩
  by_cases h2 : k = 2
  · subst h2
    go_enter Try.func70, Try.ntmps70
    go_wp2
    go_ret
    exact ⟨rfl, rfl⟩
  by_cases h5 : k = 5
  · subst h5
    go_enter Try.func70, Try.ntmps70
    go_wp2
    go_ret
    exact ⟨rfl, rfl⟩
  have HE := Lib.hid (show keyedF k = false from decide_eq_false (by omega))
  have k1 : (k == 1) = false := by rw [beq_eq_false_iff_ne]; exact h1
  have k2 : (k == 2) = false := by rw [beq_eq_false_iff_ne]; exact h2
  have k5 : (k == 5) = false := by rw [beq_eq_false_iff_ne]; exact h5
  clear h1 h2 h5
  go_enter Try.func70, Try.ntmps70
  go_wp2
  go_ret
  exact ⟨by rw [HE.out]; rfl, rfl⟩
theorem valued_any {w : World} (k : Int) : Calls Try.prog 71 #[.int .i64 k] w fun e w' => e = .returned (.bool (valuedF k)) ∧ w = w' := by
  by_cases h1 : k = 1
  · subst h1
    go_enter Try.func71, Try.ntmps71
    go_wp2
    go_ret
    exact ⟨rfl, rfl⟩
  by_cases h5 : k = 5
  · subst h5
    go_enter Try.func71, Try.ntmps71
    go_wp2
    go_ret
    exact ⟨rfl, rfl⟩
  have HE := Lib.hid (show valuedF k = false from decide_eq_false (by omega))
  have k1 : (k == 1) = false := by rw [beq_eq_false_iff_ne]; exact h1
  have k5 : (k == 5) = false := by rw [beq_eq_false_iff_ne]; exact h5
  clear h1 h5
  go_enter Try.func71, Try.ntmps71
  go_wp2
  go_ret
  exact ⟨by rw [HE.out]; rfl, rfl⟩
theorem counted_any {w : World} (k : Int) : Calls Try.prog 73 #[.int .i64 k] w fun e w' => e = .returned (.bool (countedF k)) ∧ w = w' := by
  by_cases h3 : k = 3
  · subst h3
    go_enter Try.func73, Try.ntmps73
    go_wp2
    go_ret
    exact ⟨rfl, rfl⟩
  by_cases h4 : k = 4
  · subst h4
    go_enter Try.func73, Try.ntmps73
    go_wp2
    go_ret
    exact ⟨rfl, rfl⟩
  by_cases h6 : k = 6
  · subst h6
    go_enter Try.func73, Try.ntmps73
    go_wp2
    go_ret
    exact ⟨rfl, rfl⟩
  have HE := Lib.hid (show countedF k = false from decide_eq_false (by omega))
  have k3 : (k == 3) = false := by rw [beq_eq_false_iff_ne]; exact h3
  have k4 : (k == 4) = false := by rw [beq_eq_false_iff_ne]; exact h4
  have k6 : (k == 6) = false := by rw [beq_eq_false_iff_ne]; exact h6
  clear h3 h4 h6
  go_enter Try.func73, Try.ntmps73
  go_wp2
  go_ret
  exact ⟨by rw [HE.out]; rfl, rfl⟩
theorem stamped_any {w : World} (k : Int) : Calls Try.prog 72 #[.int .i64 k] w fun e w' => e = .returned (.bool (stampedF k)) ∧ w = w' := by
  by_cases h3 : k = 3
  · subst h3
    go_enter Try.func72, Try.ntmps72
    go_wp2_with fail
    refine (counted_any 3).mono ?_
    rintro e w1 ⟨rfl, rfl⟩
    rw [show countedF 3 = true from rfl]
    go_wp2
    go_ret
    exact ⟨rfl, rfl⟩
  by_cases h4 : k = 4
  · subst h4
    go_enter Try.func72, Try.ntmps72
    go_wp2_with fail
    refine (counted_any 4).mono ?_
    rintro e w1 ⟨rfl, rfl⟩
    rw [show countedF 4 = true from rfl]
    go_wp2
    go_ret
    exact ⟨rfl, rfl⟩
  by_cases h5 : k = 5
  · subst h5
    go_enter Try.func72, Try.ntmps72
    go_wp2_with fail
    refine (counted_any 5).mono ?_
    rintro e w1 ⟨rfl, rfl⟩
    rw [show countedF 5 = false from rfl]
    go_wp2
    go_ret
    exact ⟨rfl, rfl⟩
  by_cases h6 : k = 6
  · subst h6
    go_enter Try.func72, Try.ntmps72
    go_wp2_with fail
    refine (counted_any 6).mono ?_
    rintro e w1 ⟨rfl, rfl⟩
    rw [show countedF 6 = true from rfl]
    go_wp2
    go_ret
    exact ⟨rfl, rfl⟩
  have HE := Lib.hid (show stampedF k = false from decide_eq_false (by omega))
  have HC := Lib.hid (show countedF k = false from decide_eq_false (by omega))
  have k3 : (k == 3) = false := by rw [beq_eq_false_iff_ne]; exact h3
  have k4 : (k == 4) = false := by rw [beq_eq_false_iff_ne]; exact h4
  have k5 : (k == 5) = false := by rw [beq_eq_false_iff_ne]; exact h5
  have k6 : (k == 6) = false := by rw [beq_eq_false_iff_ne]; exact h6
  clear h3 h4 h5 h6
  go_enter Try.func72, Try.ntmps72
  go_wp2_with fail
  refine (counted_any k).mono ?_
  rintro e w1 ⟨rfl, rfl⟩
  rw [HC.out]
  go_wp2
  go_ret
  exact ⟨by rw [HE.out]; rfl, rfl⟩
end Go.Proofs.Ytoecgkdipgaaeaa
/- The reference's Check at some kinds, by contract (printed by a program of this claim's own). -/
namespace Go.Proofs.Ytoecgkdipgaaeaa
open Go.RowKit
set_option maxRecDepth 100000 in
set_option maxHeartbeats 3200000 in
theorem rcheck_1_true_any {w : World} {A : Option Addr} {c : Nat} (s : Int) (n : Int) (key : ByteArray) (v : List UInt8) (hks : key.size ≤ 140737488355328) (hvl : v.length ≤ 140737488355328) :
    Calls Try.prog 38 #[.agg (En.cells ⟨1, s, n, key, v, true⟩ A c)] w fun e w' => e = .returned (.int .i64 (En.chk ⟨1, s, n, key, v, true⟩)) ∧ Below w.heap.size w w' := by
  unfold En.cells
  simp only
  go_enter Try.func38, Try.ntmps38
  go_wp2_with (first | (go_at_call 70; refine (keyed_any 1).mono ?_; rintro e w1 ⟨rfl, rfl⟩; rw [show keyedF 1 = true from rfl]) | (go_at_call 71; refine (valued_any 1).mono ?_; rintro e w1 ⟨rfl, rfl⟩; rw [show valuedF 1 = true from rfl]) | (go_at_call 72; refine (stamped_any 1).mono ?_; rintro e w1 ⟨rfl, rfl⟩; rw [show stampedF 1 = false from rfl]) | (go_at_call 73; refine (counted_any 1).mono ?_; rintro e w1 ⟨rfl, rfl⟩; rw [show countedF 1 = false from rfl]))
  all_goals go_ret
  all_goals (refine ⟨?_, (Below.refl _ _).alloc (Nat.le_refl _) _⟩)
  all_goals (first | (rw [En.chk_no (by rw [may_1]; rintro ⟨q0, q1, q2, q3, q4, q5⟩; first | omega | cases q4)]; rfl) | (rw [En.chk_ok (by rw [may_1]; exact ⟨by omega, by omega, by omega, rfl, rfl, by omega⟩)]; rfl))
set_option maxRecDepth 100000 in
set_option maxHeartbeats 3200000 in
theorem rcheck_1_false_z {w : World} {A : Option Addr} {c : Nat} (s : Int) (key : ByteArray) (v : List UInt8) (hks : key.size ≤ 140737488355328) (hvl : v.length ≤ 140737488355328) :
    Calls Try.prog 38 #[.agg (En.cells ⟨1, s, 0, key, v, false⟩ A c)] w fun e w' => e = .returned (.int .i64 (En.chk ⟨1, s, 0, key, v, false⟩)) ∧ Below w.heap.size w w' := by
  unfold En.cells
  simp only
  go_enter Try.func38, Try.ntmps38
  go_wp2_with (first | (go_at_call 70; refine (keyed_any 1).mono ?_; rintro e w1 ⟨rfl, rfl⟩; rw [show keyedF 1 = true from rfl]) | (go_at_call 71; refine (valued_any 1).mono ?_; rintro e w1 ⟨rfl, rfl⟩; rw [show valuedF 1 = true from rfl]) | (go_at_call 72; refine (stamped_any 1).mono ?_; rintro e w1 ⟨rfl, rfl⟩; rw [show stampedF 1 = false from rfl]) | (go_at_call 73; refine (counted_any 1).mono ?_; rintro e w1 ⟨rfl, rfl⟩; rw [show countedF 1 = false from rfl]))
  all_goals go_ret
  all_goals (refine ⟨?_, (Below.refl _ _).alloc (Nat.le_refl _) _⟩)
  all_goals (first | (rw [En.chk_no (by rw [may_1]; rintro ⟨q0, q1, q2, q3, q4, q5⟩; first | omega | cases q4)]; rfl) | (rw [En.chk_ok (by rw [may_1]; exact ⟨by omega, by omega, by omega, rfl, rfl, by omega⟩)]; rfl))
set_option maxRecDepth 100000 in
set_option maxHeartbeats 3200000 in
theorem rcheck_1_false_nz {w : World} {A : Option Addr} {c : Nat} (s : Int) (n : Int) (key : ByteArray) (v : List UInt8) (hks : key.size ≤ 140737488355328) (hvl : v.length ≤ 140737488355328) (hn : ¬ n = 0) :
    Calls Try.prog 38 #[.agg (En.cells ⟨1, s, n, key, v, false⟩ A c)] w fun e w' => e = .returned (.int .i64 (En.chk ⟨1, s, n, key, v, false⟩)) ∧ Below w.heap.size w w' := by
  unfold En.cells
  simp only
  have hN0 : (n != 0) = true := by rw [bne_iff_ne]; exact hn
  go_enter Try.func38, Try.ntmps38
  go_wp2_with (first | (go_at_call 70; refine (keyed_any 1).mono ?_; rintro e w1 ⟨rfl, rfl⟩; rw [show keyedF 1 = true from rfl]) | (go_at_call 71; refine (valued_any 1).mono ?_; rintro e w1 ⟨rfl, rfl⟩; rw [show valuedF 1 = true from rfl]) | (go_at_call 72; refine (stamped_any 1).mono ?_; rintro e w1 ⟨rfl, rfl⟩; rw [show stampedF 1 = false from rfl]) | (go_at_call 73; refine (counted_any 1).mono ?_; rintro e w1 ⟨rfl, rfl⟩; rw [show countedF 1 = false from rfl]))
  all_goals go_ret
  all_goals (refine ⟨?_, (Below.refl _ _).alloc (Nat.le_refl _) _⟩)
  all_goals (first | (rw [En.chk_no (by rw [may_1]; rintro ⟨q0, q1, q2, q3, q4, q5⟩; first | omega | cases q4)]; rfl) | (rw [En.chk_ok (by rw [may_1]; exact ⟨by omega, by omega, by omega, rfl, rfl, by omega⟩)]; rfl))
end Go.Proofs.Ytoecgkdipgaaeaa
/- The reference's Check at some kinds, by contract (printed by a program of this claim's own). -/
namespace Go.Proofs.Ytoecgkdipgaaeaa
open Go.RowKit
set_option maxRecDepth 100000 in
set_option maxHeartbeats 3200000 in
theorem rcheck_2_true_any {w : World} {A : Option Addr} {c : Nat} (s : Int) (n : Int) (key : ByteArray) (v : List UInt8) (hks : key.size ≤ 140737488355328) (hvl : v.length ≤ 140737488355328) :
    Calls Try.prog 38 #[.agg (En.cells ⟨2, s, n, key, v, true⟩ A c)] w fun e w' => e = .returned (.int .i64 (En.chk ⟨2, s, n, key, v, true⟩)) ∧ Below w.heap.size w w' := by
  unfold En.cells
  simp only
  go_enter Try.func38, Try.ntmps38
  go_wp2_with (first | (go_at_call 70; refine (keyed_any 2).mono ?_; rintro e w1 ⟨rfl, rfl⟩; rw [show keyedF 2 = true from rfl]) | (go_at_call 71; refine (valued_any 2).mono ?_; rintro e w1 ⟨rfl, rfl⟩; rw [show valuedF 2 = false from rfl]) | (go_at_call 72; refine (stamped_any 2).mono ?_; rintro e w1 ⟨rfl, rfl⟩; rw [show stampedF 2 = false from rfl]) | (go_at_call 73; refine (counted_any 2).mono ?_; rintro e w1 ⟨rfl, rfl⟩; rw [show countedF 2 = false from rfl]))
  all_goals go_ret
  all_goals (refine ⟨?_, (Below.refl _ _).alloc (Nat.le_refl _) _⟩)
  all_goals (first | (rw [En.chk_no (by rw [may_2]; rintro ⟨q0, q1, q2, q3, q4, q5⟩; first | omega | cases q4)]; rfl) | (rw [En.chk_ok (by rw [may_2]; exact ⟨by omega, by omega, by omega, rfl, rfl, by omega⟩)]; rfl))
set_option maxRecDepth 100000 in
set_option maxHeartbeats 3200000 in
theorem rcheck_2_false_z {w : World} {A : Option Addr} {c : Nat} (s : Int) (key : ByteArray) (v : List UInt8) (hks : key.size ≤ 140737488355328) (hvl : v.length ≤ 140737488355328) :
    Calls Try.prog 38 #[.agg (En.cells ⟨2, s, 0, key, v, false⟩ A c)] w fun e w' => e = .returned (.int .i64 (En.chk ⟨2, s, 0, key, v, false⟩)) ∧ Below w.heap.size w w' := by
  unfold En.cells
  simp only
  go_enter Try.func38, Try.ntmps38
  go_wp2_with (first | (go_at_call 70; refine (keyed_any 2).mono ?_; rintro e w1 ⟨rfl, rfl⟩; rw [show keyedF 2 = true from rfl]) | (go_at_call 71; refine (valued_any 2).mono ?_; rintro e w1 ⟨rfl, rfl⟩; rw [show valuedF 2 = false from rfl]) | (go_at_call 72; refine (stamped_any 2).mono ?_; rintro e w1 ⟨rfl, rfl⟩; rw [show stampedF 2 = false from rfl]) | (go_at_call 73; refine (counted_any 2).mono ?_; rintro e w1 ⟨rfl, rfl⟩; rw [show countedF 2 = false from rfl]))
  all_goals go_ret
  all_goals (refine ⟨?_, (Below.refl _ _).alloc (Nat.le_refl _) _⟩)
  all_goals (first | (rw [En.chk_no (by rw [may_2]; rintro ⟨q0, q1, q2, q3, q4, q5⟩; first | omega | cases q4)]; rfl) | (rw [En.chk_ok (by rw [may_2]; exact ⟨by omega, by omega, by omega, rfl, rfl, by omega⟩)]; rfl))
set_option maxRecDepth 100000 in
set_option maxHeartbeats 3200000 in
theorem rcheck_2_false_nz {w : World} {A : Option Addr} {c : Nat} (s : Int) (n : Int) (key : ByteArray) (v : List UInt8) (hks : key.size ≤ 140737488355328) (hvl : v.length ≤ 140737488355328) (hn : ¬ n = 0) :
    Calls Try.prog 38 #[.agg (En.cells ⟨2, s, n, key, v, false⟩ A c)] w fun e w' => e = .returned (.int .i64 (En.chk ⟨2, s, n, key, v, false⟩)) ∧ Below w.heap.size w w' := by
  unfold En.cells
  simp only
  have hN0 : (n != 0) = true := by rw [bne_iff_ne]; exact hn
  go_enter Try.func38, Try.ntmps38
  go_wp2_with (first | (go_at_call 70; refine (keyed_any 2).mono ?_; rintro e w1 ⟨rfl, rfl⟩; rw [show keyedF 2 = true from rfl]) | (go_at_call 71; refine (valued_any 2).mono ?_; rintro e w1 ⟨rfl, rfl⟩; rw [show valuedF 2 = false from rfl]) | (go_at_call 72; refine (stamped_any 2).mono ?_; rintro e w1 ⟨rfl, rfl⟩; rw [show stampedF 2 = false from rfl]) | (go_at_call 73; refine (counted_any 2).mono ?_; rintro e w1 ⟨rfl, rfl⟩; rw [show countedF 2 = false from rfl]))
  all_goals go_ret
  all_goals (refine ⟨?_, (Below.refl _ _).alloc (Nat.le_refl _) _⟩)
  all_goals (first | (rw [En.chk_no (by rw [may_2]; rintro ⟨q0, q1, q2, q3, q4, q5⟩; first | omega | cases q4)]; rfl) | (rw [En.chk_ok (by rw [may_2]; exact ⟨by omega, by omega, by omega, rfl, rfl, by omega⟩)]; rfl))
end Go.Proofs.Ytoecgkdipgaaeaa
/- The reference's Check at some kinds, by contract (printed by a program of this claim's own). -/
namespace Go.Proofs.Ytoecgkdipgaaeaa
open Go.RowKit
set_option maxRecDepth 100000 in
set_option maxHeartbeats 3200000 in
theorem rcheck_m_true_any {w : World} {A : Option Addr} {c : Nat} (k : Int) (hm : k = 3 ∨ k = 4 ∨ k = 6) (s : Int) (n : Int) (key : ByteArray) (v : List UInt8) (hks : key.size ≤ 140737488355328) (hvl : v.length ≤ 140737488355328) :
    Calls Try.prog 38 #[.agg (En.cells ⟨k, s, n, key, v, true⟩ A c)] w fun e w' => e = .returned (.int .i64 (En.chk ⟨k, s, n, key, v, true⟩)) ∧ Below w.heap.size w w' := by
  unfold En.cells
  simp only
  have HM := Lib.hid hm
  have Hkeyed := Lib.hid (show keyedF k = false from decide_eq_false (by omega))
  have Hvalued := Lib.hid (show valuedF k = false from decide_eq_false (by omega))
  have Hcounted := Lib.hid (show countedF k = true from decide_eq_true hm)
  have Hstamped := Lib.hid (show stampedF k = true from decide_eq_true (by omega))
  have hm1 : 1 ≤ k := by omega
  have hm6 : k ≤ 6 := by omega
  have hm5 : (k != 5) = true := by rw [bne_iff_ne]; omega
  clear hm
  go_enter Try.func38, Try.ntmps38
  go_wp2_with (first | (go_at_call 70; refine (keyed_any k).mono ?_; rintro e w1 ⟨rfl, rfl⟩; rw [Hkeyed.out]) | (go_at_call 71; refine (valued_any k).mono ?_; rintro e w1 ⟨rfl, rfl⟩; rw [Hvalued.out]) | (go_at_call 72; refine (stamped_any k).mono ?_; rintro e w1 ⟨rfl, rfl⟩; rw [Hstamped.out]) | (go_at_call 73; refine (counted_any k).mono ?_; rintro e w1 ⟨rfl, rfl⟩; rw [Hcounted.out]))
  all_goals go_ret
  all_goals (refine ⟨?_, (Below.refl _ _).alloc (Nat.le_refl _) _⟩)
  all_goals (first | (rw [En.chk_no (by rw [may_m HM.out]; rintro ⟨q0, q1, q2, q3, q4, q5, q6⟩; first | omega | cases q5)]; rfl) | (rw [En.chk_ok (by rw [may_m HM.out]; exact ⟨by omega, by omega, by omega, by omega, by omega, rfl, by omega⟩)]; rfl))
set_option maxRecDepth 100000 in
set_option maxHeartbeats 3200000 in
theorem rcheck_m_false_any {w : World} {A : Option Addr} {c : Nat} (k : Int) (hm : k = 3 ∨ k = 4 ∨ k = 6) (s : Int) (n : Int) (key : ByteArray) (v : List UInt8) (hks : key.size ≤ 140737488355328) (hvl : v.length ≤ 140737488355328) :
    Calls Try.prog 38 #[.agg (En.cells ⟨k, s, n, key, v, false⟩ A c)] w fun e w' => e = .returned (.int .i64 (En.chk ⟨k, s, n, key, v, false⟩)) ∧ Below w.heap.size w w' := by
  unfold En.cells
  simp only
  have HM := Lib.hid hm
  have Hkeyed := Lib.hid (show keyedF k = false from decide_eq_false (by omega))
  have Hvalued := Lib.hid (show valuedF k = false from decide_eq_false (by omega))
  have Hcounted := Lib.hid (show countedF k = true from decide_eq_true hm)
  have Hstamped := Lib.hid (show stampedF k = true from decide_eq_true (by omega))
  have hm1 : 1 ≤ k := by omega
  have hm6 : k ≤ 6 := by omega
  have hm5 : (k != 5) = true := by rw [bne_iff_ne]; omega
  clear hm
  go_enter Try.func38, Try.ntmps38
  go_wp2_with (first | (go_at_call 70; refine (keyed_any k).mono ?_; rintro e w1 ⟨rfl, rfl⟩; rw [Hkeyed.out]) | (go_at_call 71; refine (valued_any k).mono ?_; rintro e w1 ⟨rfl, rfl⟩; rw [Hvalued.out]) | (go_at_call 72; refine (stamped_any k).mono ?_; rintro e w1 ⟨rfl, rfl⟩; rw [Hstamped.out]) | (go_at_call 73; refine (counted_any k).mono ?_; rintro e w1 ⟨rfl, rfl⟩; rw [Hcounted.out]))
  all_goals go_ret
  all_goals (refine ⟨?_, (Below.refl _ _).alloc (Nat.le_refl _) _⟩)
  all_goals (first | (rw [En.chk_no (by rw [may_m HM.out]; rintro ⟨q0, q1, q2, q3, q4, q5, q6⟩; first | omega | cases q5)]; rfl) | (rw [En.chk_ok (by rw [may_m HM.out]; exact ⟨by omega, by omega, by omega, by omega, by omega, rfl, by omega⟩)]; rfl))
end Go.Proofs.Ytoecgkdipgaaeaa
/- The reference's Check at some kinds, by contract (printed by a program of this claim's own). -/
namespace Go.Proofs.Ytoecgkdipgaaeaa
open Go.RowKit
set_option maxRecDepth 100000 in
set_option maxHeartbeats 3200000 in
theorem rcheck_5_true_z {w : World} {A : Option Addr} {c : Nat} (s : Int) (key : ByteArray) (v : List UInt8) (hks : key.size ≤ 140737488355328) (hvl : v.length ≤ 140737488355328) :
    Calls Try.prog 38 #[.agg (En.cells ⟨5, s, 0, key, v, true⟩ A c)] w fun e w' => e = .returned (.int .i64 (En.chk ⟨5, s, 0, key, v, true⟩)) ∧ Below w.heap.size w w' := by
  unfold En.cells
  simp only
  go_enter Try.func38, Try.ntmps38
  go_wp2_with (first | (go_at_call 70; refine (keyed_any 5).mono ?_; rintro e w1 ⟨rfl, rfl⟩; rw [show keyedF 5 = true from rfl]) | (go_at_call 71; refine (valued_any 5).mono ?_; rintro e w1 ⟨rfl, rfl⟩; rw [show valuedF 5 = true from rfl]) | (go_at_call 72; refine (stamped_any 5).mono ?_; rintro e w1 ⟨rfl, rfl⟩; rw [show stampedF 5 = true from rfl]) | (go_at_call 73; refine (counted_any 5).mono ?_; rintro e w1 ⟨rfl, rfl⟩; rw [show countedF 5 = false from rfl]))
  all_goals go_ret
  all_goals (refine ⟨?_, (Below.refl _ _).alloc (Nat.le_refl _) _⟩)
  all_goals (first | (rw [En.chk_no (by rw [may_5]; rintro ⟨q0, q1, q2, q3, q4, q5, q6⟩; first | omega | (have q9 := q6 rfl; omega))]; rfl) | (rw [En.chk_ok (by rw [may_5]; exact ⟨by omega, by omega, by omega, by omega, rfl, by omega, fun hd => by first | omega | cases hd⟩)]; rfl))
set_option maxRecDepth 100000 in
set_option maxHeartbeats 3200000 in
theorem rcheck_5_true_nz {w : World} {A : Option Addr} {c : Nat} (s : Int) (n : Int) (key : ByteArray) (v : List UInt8) (hks : key.size ≤ 140737488355328) (hvl : v.length ≤ 140737488355328) (hn : ¬ n = 0) :
    Calls Try.prog 38 #[.agg (En.cells ⟨5, s, n, key, v, true⟩ A c)] w fun e w' => e = .returned (.int .i64 (En.chk ⟨5, s, n, key, v, true⟩)) ∧ Below w.heap.size w w' := by
  unfold En.cells
  simp only
  have hN0 : (n != 0) = true := by rw [bne_iff_ne]; exact hn
  go_enter Try.func38, Try.ntmps38
  go_wp2_with (first | (go_at_call 70; refine (keyed_any 5).mono ?_; rintro e w1 ⟨rfl, rfl⟩; rw [show keyedF 5 = true from rfl]) | (go_at_call 71; refine (valued_any 5).mono ?_; rintro e w1 ⟨rfl, rfl⟩; rw [show valuedF 5 = true from rfl]) | (go_at_call 72; refine (stamped_any 5).mono ?_; rintro e w1 ⟨rfl, rfl⟩; rw [show stampedF 5 = true from rfl]) | (go_at_call 73; refine (counted_any 5).mono ?_; rintro e w1 ⟨rfl, rfl⟩; rw [show countedF 5 = false from rfl]))
  all_goals go_ret
  all_goals (refine ⟨?_, (Below.refl _ _).alloc (Nat.le_refl _) _⟩)
  all_goals (first | (rw [En.chk_no (by rw [may_5]; rintro ⟨q0, q1, q2, q3, q4, q5, q6⟩; first | omega | (have q9 := q6 rfl; omega))]; rfl) | (rw [En.chk_ok (by rw [may_5]; exact ⟨by omega, by omega, by omega, by omega, rfl, by omega, fun hd => by first | omega | cases hd⟩)]; rfl))
set_option maxRecDepth 100000 in
set_option maxHeartbeats 3200000 in
theorem rcheck_5_false_z {w : World} {A : Option Addr} {c : Nat} (s : Int) (key : ByteArray) (v : List UInt8) (hks : key.size ≤ 140737488355328) (hvl : v.length ≤ 140737488355328) :
    Calls Try.prog 38 #[.agg (En.cells ⟨5, s, 0, key, v, false⟩ A c)] w fun e w' => e = .returned (.int .i64 (En.chk ⟨5, s, 0, key, v, false⟩)) ∧ Below w.heap.size w w' := by
  unfold En.cells
  simp only
  go_enter Try.func38, Try.ntmps38
  go_wp2_with (first | (go_at_call 70; refine (keyed_any 5).mono ?_; rintro e w1 ⟨rfl, rfl⟩; rw [show keyedF 5 = true from rfl]) | (go_at_call 71; refine (valued_any 5).mono ?_; rintro e w1 ⟨rfl, rfl⟩; rw [show valuedF 5 = true from rfl]) | (go_at_call 72; refine (stamped_any 5).mono ?_; rintro e w1 ⟨rfl, rfl⟩; rw [show stampedF 5 = true from rfl]) | (go_at_call 73; refine (counted_any 5).mono ?_; rintro e w1 ⟨rfl, rfl⟩; rw [show countedF 5 = false from rfl]))
  all_goals go_ret
  all_goals (refine ⟨?_, (Below.refl _ _).alloc (Nat.le_refl _) _⟩)
  all_goals (first | (rw [En.chk_no (by rw [may_5]; rintro ⟨q0, q1, q2, q3, q4, q5, q6⟩; first | omega | (have q9 := q6 rfl; omega))]; rfl) | (rw [En.chk_ok (by rw [may_5]; exact ⟨by omega, by omega, by omega, by omega, rfl, by omega, fun hd => by first | omega | cases hd⟩)]; rfl))
set_option maxRecDepth 100000 in
set_option maxHeartbeats 3200000 in
theorem rcheck_5_false_nz {w : World} {A : Option Addr} {c : Nat} (s : Int) (n : Int) (key : ByteArray) (v : List UInt8) (hks : key.size ≤ 140737488355328) (hvl : v.length ≤ 140737488355328) (hn : ¬ n = 0) :
    Calls Try.prog 38 #[.agg (En.cells ⟨5, s, n, key, v, false⟩ A c)] w fun e w' => e = .returned (.int .i64 (En.chk ⟨5, s, n, key, v, false⟩)) ∧ Below w.heap.size w w' := by
  unfold En.cells
  simp only
  have hN0 : (n != 0) = true := by rw [bne_iff_ne]; exact hn
  go_enter Try.func38, Try.ntmps38
  go_wp2_with (first | (go_at_call 70; refine (keyed_any 5).mono ?_; rintro e w1 ⟨rfl, rfl⟩; rw [show keyedF 5 = true from rfl]) | (go_at_call 71; refine (valued_any 5).mono ?_; rintro e w1 ⟨rfl, rfl⟩; rw [show valuedF 5 = true from rfl]) | (go_at_call 72; refine (stamped_any 5).mono ?_; rintro e w1 ⟨rfl, rfl⟩; rw [show stampedF 5 = true from rfl]) | (go_at_call 73; refine (counted_any 5).mono ?_; rintro e w1 ⟨rfl, rfl⟩; rw [show countedF 5 = false from rfl]))
  all_goals go_ret
  all_goals (refine ⟨?_, (Below.refl _ _).alloc (Nat.le_refl _) _⟩)
  all_goals (first | (rw [En.chk_no (by rw [may_5]; rintro ⟨q0, q1, q2, q3, q4, q5, q6⟩; first | omega | (have q9 := q6 rfl; omega))]; rfl) | (rw [En.chk_ok (by rw [may_5]; exact ⟨by omega, by omega, by omega, by omega, rfl, by omega, fun hd => by first | omega | cases hd⟩)]; rfl))
end Go.Proofs.Ytoecgkdipgaaeaa
/- The reference's Check, by contract. -/
namespace Go.Proofs.Ytoecgkdipgaaeaa
open Go.RowKit
theorem rcheck_x {w : World} {A : Option Addr} {c : Nat} (k s n : Int) (key : ByteArray) (v : List UInt8) (d : Bool) (hk : ¬ (1 ≤ k ∧ k ≤ 6)) :
    Calls Try.prog 38 #[.agg (En.cells ⟨k, s, n, key, v, d⟩ A c)] w fun e w' => e = .returned (.int .i64 (En.chk ⟨k, s, n, key, v, d⟩)) ∧ Below w.heap.size w w' := by
  have HE := Lib.hid (En.chk_no (may_x (s := s) (n := n) (key := key) (v := v) (d := d) hk))
  unfold En.cells
  simp only
  by_cases h1 : k < 1
  · clear hk
    go_enter Try.func38, Try.ntmps38
    go_wp2
    all_goals go_ret
    all_goals exact ⟨by rw [HE.out]; rfl, (Below.refl _ _).alloc (Nat.le_refl _) _⟩
  · have h6 : 6 < k := by omega
    clear hk
    go_enter Try.func38, Try.ntmps38
    go_wp2
    all_goals go_ret
    all_goals exact ⟨by rw [HE.out]; rfl, (Below.refl _ _).alloc (Nat.le_refl _) _⟩
theorem rcheck_any {w : World} {A : Option Addr} {c : Nat} (x : En) (hks : x.key.size ≤ 140737488355328) (hvl : x.value.length ≤ 140737488355328) :
    Calls Try.prog 38 #[.agg (x.cells A c)] w fun e w' => e = .returned (.int .i64 x.chk) ∧ Below w.heap.size w w' := by
  obtain ⟨k, s, n, key, v, d⟩ := x
  by_cases h1 : k = 1
  · subst h1
    cases d
    · by_cases hn : n = 0
      · subst hn; exact rcheck_1_false_z s key v hks hvl
      · exact rcheck_1_false_nz s n key v hks hvl hn
    · exact rcheck_1_true_any s n key v hks hvl
  by_cases h2 : k = 2
  · subst h2
    cases d
    · by_cases hn : n = 0
      · subst hn; exact rcheck_2_false_z s key v hks hvl
      · exact rcheck_2_false_nz s n key v hks hvl hn
    · exact rcheck_2_true_any s n key v hks hvl
  by_cases h5 : k = 5
  · subst h5
    cases d
    · by_cases hn : n = 0
      · subst hn; exact rcheck_5_false_z s key v hks hvl
      · exact rcheck_5_false_nz s n key v hks hvl hn
    · by_cases hn : n = 0
      · subst hn; exact rcheck_5_true_z s key v hks hvl
      · exact rcheck_5_true_nz s n key v hks hvl hn
  by_cases hm : k = 3 ∨ k = 4 ∨ k = 6
  · cases d
    · exact rcheck_m_false_any k hm s n key v hks hvl
    · exact rcheck_m_true_any k hm s n key v hks hvl
  · exact rcheck_x k s n key v d (by omega)
end Go.Proofs.Ytoecgkdipgaaeaa
/- Decode of the reference, by contract (printed by a program of this claim's own). -/
namespace Go.Proofs.Ytoecgkdipgaaeaa
open Go.RowKit

/-- The answer and the entry in memory while bytes are read. -/
structure RSt (w0 w : World) (R E : Nat) (cs : Array Value) : Prop where
  bel : Below w0.heap.size w0 w
  res : Blk w R 31 #[.int .i64 0, .int .i64 0, .int .i64 0, .string ⟨#[]⟩, .slice none 0 0, .bool false]
  ent : Blk w E 31 cs
  o1 : w0.heap.size ≤ R
  o2 : R < E
section
variable {w0 w w' : World} {R E : Nat} {cs : Array Value}
theorem RSt.set (h : RSt w0 w R E cs) (i : Nat) (u : Value) : RSt w0 (w.setCell ⟨E, i, none⟩ u) R E (cs.setIfInBounds i u) :=
  ⟨h.bel.setCell (by show w0.heap.size ≤ E; have := h.o1; have := h.o2; omega) _, h.res.far (p := ⟨E, i, none⟩) (by have := h.o2; show ¬ R = E; omega) _, h.ent.set_ i u, h.o1, h.o2⟩
theorem RSt.go (h : RSt w0 w R E cs) (hb : Below w.heap.size w w') : RSt w0 w' R E cs :=
  ⟨h.bel.trans (hb.mono h.bel.size), h.res.below' hb, h.ent.below' hb, h.o1, h.o2⟩
end
/-- The bytes that a reading answered, while an entry's cells are written. -/
theorem BOwns.setR {w0 w : World} {R E base : Nat} {cs : Array Value} {v : Value} {l : List UInt8} (h : RSt w0 w R E cs) (ho : BOwns w base v l) (i : Nat) (u : Value) : BOwns (w.setCell ⟨E, i, none⟩ u) base v l :=
  ho.farBlk h.ent (by decide) ((Keeps.refl (fun k => k = E) w).setCell (p := ⟨E, i, none⟩) (.inl rfl) u)
end Go.Proofs.Ytoecgkdipgaaeaa
/- Same, SameVersion, clone: by contract (printed by a program of this claim's own). -/
namespace Go.Proofs.Ytoecgkdipgaaeaa
open Go.RowKit

/-- The call answers true and leaves what was there. -/
def True_ (w : World) (e : Ending) (w' : World) : Prop := e = .returned (.bool true) ∧ Below w.heap.size w w'
set_option maxRecDepth 100000 in
set_option maxHeartbeats 1000000 in
theorem same_any {w : World} {A A' : Option Addr} {c c' : Nat} (x : En) (h1 : BReads w w.heap.size A x.value) (h2 : BReads w w.heap.size A' x.value) :
    Calls Try.prog 42 #[.agg (x.cells A c), .agg (x.cells A' c')] w (True_ w) := by
  obtain ⟨k, s, n, key, p, d⟩ := x
  unfold En.cells
  simp only at h1 h2 ⊢
  have B0 := Lib.hid (((Below.refl w.heap.size w).alloc (Nat.le_refl _) (.cells #[.int .i64 k, .int .i64 s, .int .i64 n, .string key, .slice A p.length c, .bool d] 31)).alloc (by simp) (.cells #[.int .i64 k, .int .i64 s, .int .i64 n, .string key, .slice A' p.length c', .bool d] 31))
  have k1 := conv_text (h1.below B0.out) c
  have k2 := conv_text (h2.below B0.out) c'
  obtain ⟨t, ht⟩ : ∃ t : ByteArray, t = ⟨p.toArray⟩ := ⟨_, rfl⟩
  obtain ⟨m, hm⟩ : ∃ m, m = p.length := ⟨_, rfl⟩
  rw [← ht, ← hm] at k1 k2
  rw [← hm] at B0
  rw [← hm]
  clear ht hm h1 h2
  go_enter Try.func42, Try.ntmps42
  go_wp2
  go_ret
  exact ⟨rfl, B0.out⟩
set_option maxRecDepth 100000 in
set_option maxHeartbeats 1000000 in
theorem sameVersion_any {w : World} {A A' : Option Addr} {c c' : Nat} (x : Vn) (h1 : BReads w w.heap.size A x.value) (h2 : BReads w w.heap.size A' x.value) :
    Calls Try.prog 20 #[.agg (x.cells A c), .agg (x.cells A' c')] w (True_ w) := by
  obtain ⟨key, s, p, d⟩ := x
  unfold Vn.cells
  simp only at h1 h2 ⊢
  have B0 := Lib.hid (((Below.refl w.heap.size w).alloc (Nat.le_refl _) (.cells #[.string key, .int .i64 s, .slice A p.length c, .bool d] 33)).alloc (by simp) (.cells #[.string key, .int .i64 s, .slice A' p.length c', .bool d] 33))
  have k1 := conv_text (h1.below B0.out) c
  have k2 := conv_text (h2.below B0.out) c'
  obtain ⟨t, ht⟩ : ∃ t : ByteArray, t = ⟨p.toArray⟩ := ⟨_, rfl⟩
  obtain ⟨m, hm⟩ : ∃ m, m = p.length := ⟨_, rfl⟩
  rw [← ht, ← hm] at k1 k2
  rw [← hm] at B0
  rw [← hm]
  clear ht hm h1 h2
  go_enter Try.func20, Try.ntmps20
  go_wp2
  go_ret
  exact ⟨rfl, B0.out⟩
end Go.Proofs.Ytoecgkdipgaaeaa
/- Decode of package entry, by contract (printed by a program of this claim's own). -/
namespace Go.Proofs.Ytoecgkdipgaaeaa
open Go.RowKit

section
variable {w0 w w' : World} {R g E : Nat} {r r' : Rd} {cs : Array Value}
end
end Go.Proofs.Ytoecgkdipgaaeaa
/- awake: some calls whose answers the document fixes. -/
namespace Go.Proofs.Ytoecgkdipgaaeaa
open Go.RowKit

theorem lit_owns (w : World) (l : List UInt8) (hl : l.length ≤ 140737488355328) {cs : Array Value} (e : cs = (bys l).toArray) {n : Nat} (hn : n = l.length) : BOwns (w.alloc (.cells cs 5)) w.heap.size (.slice (some ⟨w.heap.size, 0, none⟩) n n) l := by
  subst e; subst hn
  have := World.ownsRow_lit (e := 5) (size := 1) w (bys l).toArray l.length (Nat.le_refl _) (by unfold maxLen; omega) (by simp [bys])
  unfold BOwns; simpa using this
theorem lit_reads (w : World) (l : List UInt8) (fr : Nat × Nat) {cs : Array Value} (e : cs = (bys l).toArray) : BReads (w.alloc (.cells cs 5 fr)) (w.alloc (.cells cs 5 fr)).heap.size (some ⟨w.heap.size, 0, none⟩) l := by
  subst e
  refine ⟨by rw [bys_length, Nat.mul_one], fun _ => ⟨w.heap.size, 0, rfl, by simp, fun j u hu => ?_⟩⟩
  rw [Nat.zero_add, cell_of_row _ w.heap.size j _ 5 fr (heap_alloc_new w _)]
  simpa using hu
theorem enc_k : En.enc ⟨1, 0, 0, ⟨#[107]⟩, [97, 98], false⟩ = [1, 2, 107, 4, 97, 98] := by simp [En.enc, intF, foldI, shortF_small, ByteArray.size]
theorem enc_6 : En.enc ⟨6, 64, 1, ⟨#[]⟩, [], false⟩ = [6, 128, 1, 2] := by simp [En.enc, intF, foldI, shortF_small, shortF_big]
theorem may_k : En.may ⟨1, 0, 0, ⟨#[107]⟩, [97, 98], false⟩ := by rw [may_1]; exact ⟨by decide, by decide, rfl, rfl, rfl, by decide⟩
theorem may_6 : En.may ⟨6, 64, 1, ⟨#[]⟩, [], false⟩ := by rw [may_m (by decide)]; exact ⟨by decide, by decide, by decide, by decide, by decide, rfl, rfl⟩
theorem dec_hit {w w' : World} {b : List UInt8} {e : Ending} {x : En} (h : DecPost w b e w') (hm : x.may) (he : x.enc = b) : ∃ A c, e = .returned (.tuple #[.agg (x.cells A c), .int .i64 0]) ∧ BOwns w' w.heap.size (.slice A x.value.length c) x.value ∧ Below w.heap.size w w' := by
  rcases h with ⟨y, h1, h2, h3⟩ | ⟨h, _⟩
  · have := enc_inj h1 hm (h2.trans he.symm)
    subst this; exact h3
  · exact absurd ⟨x, hm, he⟩ h
end Go.Proofs.Ytoecgkdipgaaeaa
/- EntryReads: the walk. -/
namespace Go.Proofs.Ytoecgkdipgaaeaa
open Go.RowKit

def En.zero : En := ⟨0, 0, 0, ⟨#[]⟩, [], false⟩
open Classical in
/-- The entry of bytes, and the error's number. -/
noncomputable def decF (b : List UInt8) : En × Int := if h : ∃ y : En, y.may ∧ y.enc = b then (h.choose, 0) else (En.zero, 100)
theorem decF_ok {b : List UInt8} {x : En} (hm : x.may) (he : x.enc = b) : decF b = (x, 0) := by
  have h : ∃ y : En, y.may ∧ y.enc = b := ⟨x, hm, he⟩
  unfold decF
  rw [dif_pos h]
  have := h.choose_spec
  rw [enc_inj this.1 hm (this.2.trans he.symm)]
theorem decF_no {b : List UInt8} (h : ¬ ∃ y : En, y.may ∧ y.enc = b) : decF b = (En.zero, 100) := by unfold decF; rw [dif_neg h]
theorem dec_both {w w' : World} {b : List UInt8} {e : Ending} (h : DecPost w b e w') : ∃ A c, e = .returned (.tuple #[.agg ((decF b).1.cells A c), .int .i64 (decF b).2]) ∧ Hid (BOwns w' w.heap.size (.slice A (decF b).1.value.length c) (decF b).1.value) ∧ Hid (Below w.heap.size w w') := by
  rcases h with ⟨y, h1, h2, A, c, rfl, ho, hb⟩ | ⟨h, rfl, hb⟩
  · rw [decF_ok h1 h2]; exact ⟨A, c, rfl, Lib.hid ho, Lib.hid hb⟩
  · rw [decF_no h]; exact ⟨none, 0, rfl, Lib.hid (BOwns.nil _ _), Lib.hid hb⟩
end Go.Proofs.Ytoecgkdipgaaeaa
/- Logs, by contract: Entries. -/
namespace Go.Proofs.Ytoecgkdipgaaeaa
open Go.RowKit
attribute [local go_sem] Oper.semAt_some

end Go.Proofs.Ytoecgkdipgaaeaa
