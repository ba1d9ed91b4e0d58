/- Contracts and plain laws that this claim leans on, laid together: Ent4. -/
import Derived.Test.YtmnpchncmbnddaaGreatG06
import Derived.Test.YtmnpchncmbnddaaGreatG01
import Derived.Deep.RegionHeld3
set_option linter.all false
set_option linter.unusedVariables false
set_option linter.unusedSimpArgs false
set_option linter.unnecessarySimpa false
/- The bytes of an entry; own, bytes.Equal, Encode of package entry: by contract (printed by a program of this claim's own). -/
namespace Go.Proofs.YtmnpchncmbnddaaGreat
open Go.RowKit

theorem eown_any {w : World} {B c : Nat} {A : Option Addr} {l : List UInt8} (hr : BReads w B A l) (hl : l.length ≤ 140737488355328) :
    Calls Tryz.prog 166 #[.slice A l.length c] w (GivesB w l) := by
  go_enter Tryz.func166, Tryz.ntmps166
  go_wp2_with (at_builtin; refine Stop.of ?_)
  refine ⟨append_bytes (BOwns.nil w _) hr.src (by simpa using hl) (Nat.le_refl _) rfl rfl rfl rfl ?_⟩
  intro v' w1 hown hg _
  go_wp2
  go_ret
  exact ⟨v', rfl, hown, below_of_nil hg⟩
theorem ba_toList (m : List UInt8) : (⟨m.toArray⟩ : ByteArray).toList = m := by rw [ByteArray.toList_eq]
theorem text_eq (m p : List UInt8) : (((⟨m.toArray⟩ : ByteArray).toList == (⟨p.toArray⟩ : ByteArray).toList) : Bool) = decide (m = p) := by
  rw [ba_toList, ba_toList, Bool.eq_iff_iff]; simp
theorem bytesEqual_any {w : World} {B B' c c' : Nat} {A A' : Option Addr} {a b : List UInt8} (ha : BReads w B A a) (hb : BReads w B' A' b) :
    Calls Tryz.prog 154 #[.slice A a.length c, .slice A' b.length c'] w fun e w' => e = .returned (.bool (decide (a = b))) ∧ w = w' := by
  have ka := conv_text ha c
  have kb := conv_text hb c'
  obtain ⟨n, hn⟩ : ∃ n, n = a.length := ⟨_, rfl⟩
  obtain ⟨m, hm⟩ : ∃ n, n = b.length := ⟨_, rfl⟩
  obtain ⟨s, hs⟩ : ∃ s : ByteArray, s = ⟨a.toArray⟩ := ⟨_, rfl⟩
  obtain ⟨t, ht⟩ : ∃ s : ByteArray, s = ⟨b.toArray⟩ := ⟨_, rfl⟩
  rw [← hn, ← hs] at ka
  rw [← hm, ← ht] at kb
  rw [← hn, ← hm]
  have HS := Lib.hid hs
  have HT := Lib.hid ht
  clear hs ht hn hm ha hb
  go_enter Tryz.func154, Tryz.ntmps154
  go_wp2
  go_ret
  refine ⟨?_, rfl⟩
  show Ending.returned (.bool (s.toList == t.toList)) = _
  rw [HS.out, HT.out, text_eq]

/-- The bytes of an entry that may be. -/
def En.enc (e : En) : List UInt8 :=
  if e.kind = 1 then [1] ++ intF e.key.size ++ e.key.data.toList ++ intF e.value.length ++ e.value
  else if e.kind = 2 then [2] ++ intF e.key.size ++ e.key.data.toList
  else if e.kind = 5 then [5] ++ intF e.key.size ++ e.key.data.toList ++ intF e.stamp ++ [if e.dead then 1 else 0] ++ intF e.value.length ++ e.value
  else [UInt8.ofNat e.kind.toNat] ++ intF e.stamp ++ intF e.count
theorem En.may_bounds {e : En} (h : e.may) : e.key.size ≤ 255 ∧ e.value.length ≤ 4096 ∧ 0 ≤ e.stamp ∧ e.stamp ≤ 4611686018427387904 ∧ 0 ≤ e.count ∧ e.count ≤ 2147483647 ∧ 1 ≤ e.kind ∧ e.kind ≤ 6 := by
  unfold En.may at h
  split at h
  · omega
  · split at h
    · omega
    · split at h
      · omega
      · split at h
        · omega
        · exact h.elim
theorem En.enc_len {e : En} (h : e.may) : e.enc.length ≤ 5000 := by
  obtain ⟨h1, h2, h3, h4, h5, h6, h7, h8⟩ := En.may_bounds h
  have a1 := intF_length (n := (e.key.size : Int)) (by omega) (by omega)
  have a2 := intF_length (n := (e.value.length : Int)) (by omega) (by omega)
  have a3 := intF_length (n := e.stamp) (by omega) (by omega)
  have a4 := intF_length (n := e.count) (by omega) (by omega)
  have a5 := str_length e.key
  unfold En.enc
  repeat' split
  all_goals simp only [List.length_append, List.length_cons, List.length_nil]
  all_goals omega
/-- What Encode answers: the bytes in new memory; or the error. -/
def EncPost (w : World) (x : En) (e : Ending) (w' : World) : Prop :=
  (x.may ∧ ∃ v', e = .returned (.tuple #[v', .int .i64 0]) ∧ BOwns w' w.heap.size v' x.enc ∧ Below w.heap.size w w') ∨ (¬ x.may ∧ e = .returned (.tuple #[.slice none 0 0, .int .i64 100]) ∧ Below w.heap.size w w')
set_option maxRecDepth 100000 in
set_option maxHeartbeats 1600000 in
theorem enc_1_false {w : World} {A : Option Addr} {c : Nat} (key : ByteArray) (v : List UInt8) (hm : En.may ⟨1, 0, 0, key, v, false⟩) (hr : BReads w w.heap.size A v) :
    Calls Tryz.prog 134 #[.agg (En.cells ⟨1, 0, 0, key, v, false⟩ A c)] w (EncPost w ⟨1, 0, 0, key, v, false⟩) := by
  have HC := Lib.hid (En.chk_ok hm)
  have HM := Lib.hid hm
  have hbd := En.may_bounds hm
  simp only at hbd
  have a5 := Lib.hid (str_length key)
  clear hm
  have BA := Lib.hid ((Below.refl w.heap.size w).alloc (Nat.le_refl _) (.cells #[.int .i64 1, .int .i64 0, .int .i64 0, .string key, .slice A v.length c, .bool false] 105))
  have KN := Lib.hid (Blk.new w 105 #[.int .i64 1, .int .i64 0, .int .i64 0, .string key, .slice A v.length c, .bool false])
  unfold En.cells
  simp only
  have HR := Lib.hid ((hr.below BA.out).more BA.out.size)
  clear hr
  go_enter Tryz.func134, Tryz.ntmps134
  go_wp2_with fail
  obtain ⟨W, hW⟩ : ∃ x, x = w.alloc (.cells #[.int .i64 1, .int .i64 0, .int .i64 0, .string key, .slice A v.length c, .bool false] 105) := ⟨_, rfl⟩
  obtain ⟨T, hT⟩ : ∃ x, x = w.heap.size := ⟨_, rfl⟩
  have HT := Lib.hid hT
  rw [← hW, ← hT] at KN
  rw [← hW] at BA HR
  rw [← hW, ← hT]
  clear hW hT
  refine (check_any ⟨1, 0, 0, key, v, false⟩ (by simp <;> omega) (by simp <;> omega)).mono ?_
  rintro e w1 ⟨rfl, hb⟩
  rw [HC.out]
  have KN1 := Lib.hid (KN.out.below' hb)
  have HR1 := Lib.hid ((HR.out.below hb).more hb.size)
  have B1 := Lib.hid (BA.out.trans (hb.mono BA.out.size))
  clear hb KN HR BA
  have x0 := KN1.out.cell 0
  simp at x0
  go_wp2
  go_region_held3 (fun w' => w'.cell? ⟨T, 0, none⟩ = some (.int .i64 1)) (first | assumption) (first | (go_at_call 173; refine (put8_any (w := w1.drew) (A := none) (c := 0) (l := []) (B := 0) 1 Reads.none_ (by decide) (by simp)).mono ?_; rintro e w2 h; obtain ⟨L2, A2, c2, rfl, E2, _, R2, B2⟩ := h.named; have HB2 := Lib.hid (show Below w1.heap.size w1 w2 from ⟨B2.out.os, B2.out.tape, B2.out.output, B2.out.size, B2.out.block⟩); have KN2 := Lib.hid (KN1.out.below' HB2.out); have y0 := KN2.out.cell 0; simp at y0; clear h B2) | (go_at_call 149; refine (fields_any 1).mono ?_; rintro e w3 ⟨rfl, rfl⟩; rw [show fieldsF 1 = 17 from rfl]))
  have B2 := Lib.hid (B1.out.trans (HB2.out.mono B1.out.size))
  have HR2 := Lib.hid ((HR1.out.below HB2.out).more HB2.out.size)
  have e2 := Lib.hid (show L2 = [1] from by rw [E2.out]; rfl)
  have l2 : L2.length ≤ 1 := by rw [e2.out]; simp
  clear E2 x0 y0 HB2 KN1 HR1 B1
  have b1 := and_17_1
  have b2 := and_17_2
  have b4 := and_17_4
  have b8 := and_17_8
  have b16 := and_17_16
  have q0 := KN2.out.cell 0
  have q1 := KN2.out.cell 1
  have q2 := KN2.out.cell 2
  have q3 := KN2.out.cell 3
  have q4 := KN2.out.cell 4
  have q5 := KN2.out.cell 5
  simp at q0 q1 q2 q3 q4 q5
  go_wp2_with fail
  refine (putText_any key R2.out (by omega) (by omega)).mono ?_
  rintro e w3 h
  obtain ⟨L3, A3, c3, rfl, E3, O3, R3, B3'⟩ := h.named
  have e3 := Lib.hid (show L3 = L2 ++ intF key.size ++ key.data.toList from E3.out)
  have l3 : L3.length ≤ 271 := by rw [e3.out]; exact (by have := intF_length (n := (key.size : Int)) (by omega) (by omega); have := a5.out; simp only [List.length_append]; omega)
  have B3 := Lib.hid (B2.out.trans (B3'.out.mono B2.out.size))
  have KN3 := Lib.hid (KN2.out.below' B3'.out)
  have HR3 := Lib.hid ((HR2.out.below B3'.out).more B3'.out.size)
  have S3 := Lib.hid B2.out.size
  clear h E3 q0 q1 q2 q3 q4 q5 R2 KN2 HR2 B3'
  have q0 := KN3.out.cell 0
  have q1 := KN3.out.cell 1
  have q2 := KN3.out.cell 2
  have q3 := KN3.out.cell 3
  have q4 := KN3.out.cell 4
  have q5 := KN3.out.cell 5
  simp at q0 q1 q2 q3 q4 q5
  go_wp2_with fail
  refine (putBytes_any (p := v) R3.out HR3.out (Nat.le_refl _) (by (try simp only [List.length_nil]); omega)).mono ?_
  rintro e w4 h
  obtain ⟨L4, A4, c4, rfl, E4, O4, R4, B4'⟩ := h.named
  have e4 := Lib.hid (show L4 = L3 ++ intF (v).length ++ v from E4.out)
  have l4 : L4.length ≤ 4471 := by rw [e4.out]; exact (by have := intF_length (n := ((v).length : Int)) (by (try simp only [List.length_nil]); omega) (by (try simp only [List.length_nil]); omega); simp only [List.length_append]; (try simp only [List.length_nil] at *); omega)
  have B4 := Lib.hid (B3.out.trans (B4'.out.mono B3.out.size))
  have KN4 := Lib.hid (KN3.out.below' B4'.out)
  have HR4 := Lib.hid ((HR3.out.below B4'.out).more B4'.out.size)
  have S4 := Lib.hid B3.out.size
  clear h E4 q0 q1 q2 q3 q4 q5 R3 KN3 HR3 B4'
  have q0 := KN4.out.cell 0
  simp at q0
  go_wp2
  go_ret2
  refine .inl ⟨HM.out, _, rfl, ?_, B4.out⟩
  have he : L4 = En.enc ⟨1, 0, 0, key, v, false⟩ := by rw [e4.out, e3.out, e2.out]; rfl
  rw [he] at O4 ⊢
  exact owns_less O4.out S4.out
set_option maxRecDepth 100000 in
set_option maxHeartbeats 1600000 in
theorem enc_2_false {w : World} {A : Option Addr} {c : Nat} (key : ByteArray) (hm : En.may ⟨2, 0, 0, key, [], false⟩) (hr : BReads w w.heap.size A ([] : List UInt8)) :
    Calls Tryz.prog 134 #[.agg (En.cells ⟨2, 0, 0, key, [], false⟩ A c)] w (EncPost w ⟨2, 0, 0, key, [], false⟩) := by
  have HC := Lib.hid (En.chk_ok hm)
  have HM := Lib.hid hm
  have hbd := En.may_bounds hm
  simp only at hbd
  have a5 := Lib.hid (str_length key)
  clear hm
  have BA := Lib.hid ((Below.refl w.heap.size w).alloc (Nat.le_refl _) (.cells #[.int .i64 2, .int .i64 0, .int .i64 0, .string key, .slice A 0 c, .bool false] 105))
  have KN := Lib.hid (Blk.new w 105 #[.int .i64 2, .int .i64 0, .int .i64 0, .string key, .slice A 0 c, .bool false])
  unfold En.cells
  simp only
  have HR := Lib.hid ((hr.below BA.out).more BA.out.size)
  clear hr
  go_enter Tryz.func134, Tryz.ntmps134
  go_wp2_with fail
  obtain ⟨W, hW⟩ : ∃ x, x = w.alloc (.cells #[.int .i64 2, .int .i64 0, .int .i64 0, .string key, .slice A 0 c, .bool false] 105) := ⟨_, rfl⟩
  obtain ⟨T, hT⟩ : ∃ x, x = w.heap.size := ⟨_, rfl⟩
  have HT := Lib.hid hT
  rw [← hW, ← hT] at KN
  rw [← hW] at BA HR
  rw [← hW, ← hT]
  clear hW hT
  refine (check_any ⟨2, 0, 0, key, [], false⟩ (by simp <;> omega) (by simp <;> omega)).mono ?_
  rintro e w1 ⟨rfl, hb⟩
  rw [HC.out]
  have KN1 := Lib.hid (KN.out.below' hb)
  have HR1 := Lib.hid ((HR.out.below hb).more hb.size)
  have B1 := Lib.hid (BA.out.trans (hb.mono BA.out.size))
  clear hb KN HR BA
  have x0 := KN1.out.cell 0
  simp at x0
  go_wp2
  go_region_held3 (fun w' => w'.cell? ⟨T, 0, none⟩ = some (.int .i64 2)) (first | assumption) (first | (go_at_call 173; refine (put8_any (w := w1.drew) (A := none) (c := 0) (l := []) (B := 0) 2 Reads.none_ (by decide) (by simp)).mono ?_; rintro e w2 h; obtain ⟨L2, A2, c2, rfl, E2, _, R2, B2⟩ := h.named; have HB2 := Lib.hid (show Below w1.heap.size w1 w2 from ⟨B2.out.os, B2.out.tape, B2.out.output, B2.out.size, B2.out.block⟩); have KN2 := Lib.hid (KN1.out.below' HB2.out); have y0 := KN2.out.cell 0; simp at y0; clear h B2) | (go_at_call 149; refine (fields_any 2).mono ?_; rintro e w3 ⟨rfl, rfl⟩; rw [show fieldsF 2 = 1 from rfl]))
  have B2 := Lib.hid (B1.out.trans (HB2.out.mono B1.out.size))
  have HR2 := Lib.hid ((HR1.out.below HB2.out).more HB2.out.size)
  have e2 := Lib.hid (show L2 = [2] from by rw [E2.out]; rfl)
  have l2 : L2.length ≤ 1 := by rw [e2.out]; simp
  clear E2 x0 y0 HB2 KN1 HR1 B1
  have b1 := and_1_1
  have b2 := and_1_2
  have b4 := and_1_4
  have b8 := and_1_8
  have b16 := and_1_16
  have q0 := KN2.out.cell 0
  have q1 := KN2.out.cell 1
  have q2 := KN2.out.cell 2
  have q3 := KN2.out.cell 3
  have q4 := KN2.out.cell 4
  have q5 := KN2.out.cell 5
  simp at q0 q1 q2 q3 q4 q5
  go_wp2_with fail
  refine (putText_any key R2.out (by omega) (by omega)).mono ?_
  rintro e w3 h
  obtain ⟨L3, A3, c3, rfl, E3, O3, R3, B3'⟩ := h.named
  have e3 := Lib.hid (show L3 = L2 ++ intF key.size ++ key.data.toList from E3.out)
  have l3 : L3.length ≤ 271 := by rw [e3.out]; exact (by have := intF_length (n := (key.size : Int)) (by omega) (by omega); have := a5.out; simp only [List.length_append]; omega)
  have B3 := Lib.hid (B2.out.trans (B3'.out.mono B2.out.size))
  have KN3 := Lib.hid (KN2.out.below' B3'.out)
  have HR3 := Lib.hid ((HR2.out.below B3'.out).more B3'.out.size)
  have S3 := Lib.hid B2.out.size
  clear h E3 q0 q1 q2 q3 q4 q5 R2 KN2 HR2 B3'
  have q0 := KN3.out.cell 0
  simp at q0
  go_wp2
  go_ret2
  refine .inl ⟨HM.out, _, rfl, ?_, B3.out⟩
  have he : L3 = En.enc ⟨2, 0, 0, key, [], false⟩ := by rw [e3.out, e2.out]; rfl
  rw [he] at O3 ⊢
  exact owns_less O3.out S3.out
set_option maxRecDepth 100000 in
set_option maxHeartbeats 1600000 in
theorem enc_3_false {w : World} {A : Option Addr} {c : Nat} (s n : Int) (hm : En.may ⟨3, s, n, ⟨#[]⟩, [], false⟩) (hr : BReads w w.heap.size A ([] : List UInt8)) :
    Calls Tryz.prog 134 #[.agg (En.cells ⟨3, s, n, ⟨#[]⟩, [], false⟩ A c)] w (EncPost w ⟨3, s, n, ⟨#[]⟩, [], false⟩) := by
  have HC := Lib.hid (En.chk_ok hm)
  have HM := Lib.hid hm
  have hbd := En.may_bounds hm
  simp only at hbd
  clear hm
  have BA := Lib.hid ((Below.refl w.heap.size w).alloc (Nat.le_refl _) (.cells #[.int .i64 3, .int .i64 s, .int .i64 n, .string ⟨#[]⟩, .slice A 0 c, .bool false] 105))
  have KN := Lib.hid (Blk.new w 105 #[.int .i64 3, .int .i64 s, .int .i64 n, .string ⟨#[]⟩, .slice A 0 c, .bool false])
  unfold En.cells
  simp only
  have HR := Lib.hid ((hr.below BA.out).more BA.out.size)
  clear hr
  go_enter Tryz.func134, Tryz.ntmps134
  go_wp2_with fail
  obtain ⟨W, hW⟩ : ∃ x, x = w.alloc (.cells #[.int .i64 3, .int .i64 s, .int .i64 n, .string ⟨#[]⟩, .slice A 0 c, .bool false] 105) := ⟨_, rfl⟩
  obtain ⟨T, hT⟩ : ∃ x, x = w.heap.size := ⟨_, rfl⟩
  have HT := Lib.hid hT
  rw [← hW, ← hT] at KN
  rw [← hW] at BA HR
  rw [← hW, ← hT]
  clear hW hT
  refine (check_any ⟨3, s, n, ⟨#[]⟩, [], false⟩ (by simp <;> omega) (by simp <;> omega)).mono ?_
  rintro e w1 ⟨rfl, hb⟩
  rw [HC.out]
  have KN1 := Lib.hid (KN.out.below' hb)
  have HR1 := Lib.hid ((HR.out.below hb).more hb.size)
  have B1 := Lib.hid (BA.out.trans (hb.mono BA.out.size))
  clear hb KN HR BA
  have x0 := KN1.out.cell 0
  simp at x0
  go_wp2
  go_region_held3 (fun w' => w'.cell? ⟨T, 0, none⟩ = some (.int .i64 3)) (first | assumption) (first | (go_at_call 173; refine (put8_any (w := w1.drew) (A := none) (c := 0) (l := []) (B := 0) 3 Reads.none_ (by decide) (by simp)).mono ?_; rintro e w2 h; obtain ⟨L2, A2, c2, rfl, E2, _, R2, B2⟩ := h.named; have HB2 := Lib.hid (show Below w1.heap.size w1 w2 from ⟨B2.out.os, B2.out.tape, B2.out.output, B2.out.size, B2.out.block⟩); have KN2 := Lib.hid (KN1.out.below' HB2.out); have y0 := KN2.out.cell 0; simp at y0; clear h B2) | (go_at_call 149; refine (fields_any 3).mono ?_; rintro e w3 ⟨rfl, rfl⟩; rw [show fieldsF 3 = 6 from rfl]))
  have B2 := Lib.hid (B1.out.trans (HB2.out.mono B1.out.size))
  have HR2 := Lib.hid ((HR1.out.below HB2.out).more HB2.out.size)
  have e2 := Lib.hid (show L2 = [3] from by rw [E2.out]; rfl)
  have l2 : L2.length ≤ 1 := by rw [e2.out]; simp
  clear E2 x0 y0 HB2 KN1 HR1 B1
  have b1 := and_6_1
  have b2 := and_6_2
  have b4 := and_6_4
  have b8 := and_6_8
  have b16 := and_6_16
  have q0 := KN2.out.cell 0
  have q1 := KN2.out.cell 1
  have q2 := KN2.out.cell 2
  have q3 := KN2.out.cell 3
  have q4 := KN2.out.cell 4
  have q5 := KN2.out.cell 5
  simp at q0 q1 q2 q3 q4 q5
  go_wp2_with fail
  refine (putInt_any s R2.out (by omega) (by omega) (by omega)).mono ?_
  rintro e w3 h
  obtain ⟨L3, A3, c3, rfl, E3, O3, R3, B3'⟩ := h.named
  have e3 := Lib.hid (show L3 = L2 ++ intF s from E3.out)
  have l3 : L3.length ≤ 11 := by rw [e3.out]; exact (by have := intF_length (n := s) (by omega) (by omega); simp only [List.length_append]; omega)
  have B3 := Lib.hid (B2.out.trans (B3'.out.mono B2.out.size))
  have KN3 := Lib.hid (KN2.out.below' B3'.out)
  have HR3 := Lib.hid ((HR2.out.below B3'.out).more B3'.out.size)
  have S3 := Lib.hid B2.out.size
  clear h E3 q0 q1 q2 q3 q4 q5 R2 KN2 HR2 B3'
  have q0 := KN3.out.cell 0
  have q1 := KN3.out.cell 1
  have q2 := KN3.out.cell 2
  have q3 := KN3.out.cell 3
  have q4 := KN3.out.cell 4
  have q5 := KN3.out.cell 5
  simp at q0 q1 q2 q3 q4 q5
  go_wp2_with fail
  refine (putInt_any n R3.out (by omega) (by omega) (by omega)).mono ?_
  rintro e w4 h
  obtain ⟨L4, A4, c4, rfl, E4, O4, R4, B4'⟩ := h.named
  have e4 := Lib.hid (show L4 = L3 ++ intF n from E4.out)
  have l4 : L4.length ≤ 21 := by rw [e4.out]; exact (by have := intF_length (n := n) (by omega) (by omega); simp only [List.length_append]; omega)
  have B4 := Lib.hid (B3.out.trans (B4'.out.mono B3.out.size))
  have KN4 := Lib.hid (KN3.out.below' B4'.out)
  have HR4 := Lib.hid ((HR3.out.below B4'.out).more B4'.out.size)
  have S4 := Lib.hid B3.out.size
  clear h E4 q0 q1 q2 q3 q4 q5 R3 KN3 HR3 B4'
  have q0 := KN4.out.cell 0
  simp at q0
  go_wp2
  go_ret2
  refine .inl ⟨HM.out, _, rfl, ?_, B4.out⟩
  have he : L4 = En.enc ⟨3, s, n, ⟨#[]⟩, [], false⟩ := by rw [e4.out, e3.out, e2.out]; rfl
  rw [he] at O4 ⊢
  exact owns_less O4.out S4.out
set_option maxRecDepth 100000 in
set_option maxHeartbeats 1600000 in
theorem enc_4_false {w : World} {A : Option Addr} {c : Nat} (s n : Int) (hm : En.may ⟨4, s, n, ⟨#[]⟩, [], false⟩) (hr : BReads w w.heap.size A ([] : List UInt8)) :
    Calls Tryz.prog 134 #[.agg (En.cells ⟨4, s, n, ⟨#[]⟩, [], false⟩ A c)] w (EncPost w ⟨4, s, n, ⟨#[]⟩, [], false⟩) := by
  have HC := Lib.hid (En.chk_ok hm)
  have HM := Lib.hid hm
  have hbd := En.may_bounds hm
  simp only at hbd
  clear hm
  have BA := Lib.hid ((Below.refl w.heap.size w).alloc (Nat.le_refl _) (.cells #[.int .i64 4, .int .i64 s, .int .i64 n, .string ⟨#[]⟩, .slice A 0 c, .bool false] 105))
  have KN := Lib.hid (Blk.new w 105 #[.int .i64 4, .int .i64 s, .int .i64 n, .string ⟨#[]⟩, .slice A 0 c, .bool false])
  unfold En.cells
  simp only
  have HR := Lib.hid ((hr.below BA.out).more BA.out.size)
  clear hr
  go_enter Tryz.func134, Tryz.ntmps134
  go_wp2_with fail
  obtain ⟨W, hW⟩ : ∃ x, x = w.alloc (.cells #[.int .i64 4, .int .i64 s, .int .i64 n, .string ⟨#[]⟩, .slice A 0 c, .bool false] 105) := ⟨_, rfl⟩
  obtain ⟨T, hT⟩ : ∃ x, x = w.heap.size := ⟨_, rfl⟩
  have HT := Lib.hid hT
  rw [← hW, ← hT] at KN
  rw [← hW] at BA HR
  rw [← hW, ← hT]
  clear hW hT
  refine (check_any ⟨4, s, n, ⟨#[]⟩, [], false⟩ (by simp <;> omega) (by simp <;> omega)).mono ?_
  rintro e w1 ⟨rfl, hb⟩
  rw [HC.out]
  have KN1 := Lib.hid (KN.out.below' hb)
  have HR1 := Lib.hid ((HR.out.below hb).more hb.size)
  have B1 := Lib.hid (BA.out.trans (hb.mono BA.out.size))
  clear hb KN HR BA
  have x0 := KN1.out.cell 0
  simp at x0
  go_wp2
  go_region_held3 (fun w' => w'.cell? ⟨T, 0, none⟩ = some (.int .i64 4)) (first | assumption) (first | (go_at_call 173; refine (put8_any (w := w1.drew) (A := none) (c := 0) (l := []) (B := 0) 4 Reads.none_ (by decide) (by simp)).mono ?_; rintro e w2 h; obtain ⟨L2, A2, c2, rfl, E2, _, R2, B2⟩ := h.named; have HB2 := Lib.hid (show Below w1.heap.size w1 w2 from ⟨B2.out.os, B2.out.tape, B2.out.output, B2.out.size, B2.out.block⟩); have KN2 := Lib.hid (KN1.out.below' HB2.out); have y0 := KN2.out.cell 0; simp at y0; clear h B2) | (go_at_call 149; refine (fields_any 4).mono ?_; rintro e w3 ⟨rfl, rfl⟩; rw [show fieldsF 4 = 6 from rfl]))
  have B2 := Lib.hid (B1.out.trans (HB2.out.mono B1.out.size))
  have HR2 := Lib.hid ((HR1.out.below HB2.out).more HB2.out.size)
  have e2 := Lib.hid (show L2 = [4] from by rw [E2.out]; rfl)
  have l2 : L2.length ≤ 1 := by rw [e2.out]; simp
  clear E2 x0 y0 HB2 KN1 HR1 B1
  have b1 := and_6_1
  have b2 := and_6_2
  have b4 := and_6_4
  have b8 := and_6_8
  have b16 := and_6_16
  have q0 := KN2.out.cell 0
  have q1 := KN2.out.cell 1
  have q2 := KN2.out.cell 2
  have q3 := KN2.out.cell 3
  have q4 := KN2.out.cell 4
  have q5 := KN2.out.cell 5
  simp at q0 q1 q2 q3 q4 q5
  go_wp2_with fail
  refine (putInt_any s R2.out (by omega) (by omega) (by omega)).mono ?_
  rintro e w3 h
  obtain ⟨L3, A3, c3, rfl, E3, O3, R3, B3'⟩ := h.named
  have e3 := Lib.hid (show L3 = L2 ++ intF s from E3.out)
  have l3 : L3.length ≤ 11 := by rw [e3.out]; exact (by have := intF_length (n := s) (by omega) (by omega); simp only [List.length_append]; omega)
  have B3 := Lib.hid (B2.out.trans (B3'.out.mono B2.out.size))
  have KN3 := Lib.hid (KN2.out.below' B3'.out)
  have HR3 := Lib.hid ((HR2.out.below B3'.out).more B3'.out.size)
  have S3 := Lib.hid B2.out.size
  clear h E3 q0 q1 q2 q3 q4 q5 R2 KN2 HR2 B3'
  have q0 := KN3.out.cell 0
  have q1 := KN3.out.cell 1
  have q2 := KN3.out.cell 2
  have q3 := KN3.out.cell 3
  have q4 := KN3.out.cell 4
  have q5 := KN3.out.cell 5
  simp at q0 q1 q2 q3 q4 q5
  go_wp2_with fail
  refine (putInt_any n R3.out (by omega) (by omega) (by omega)).mono ?_
  rintro e w4 h
  obtain ⟨L4, A4, c4, rfl, E4, O4, R4, B4'⟩ := h.named
  have e4 := Lib.hid (show L4 = L3 ++ intF n from E4.out)
  have l4 : L4.length ≤ 21 := by rw [e4.out]; exact (by have := intF_length (n := n) (by omega) (by omega); simp only [List.length_append]; omega)
  have B4 := Lib.hid (B3.out.trans (B4'.out.mono B3.out.size))
  have KN4 := Lib.hid (KN3.out.below' B4'.out)
  have HR4 := Lib.hid ((HR3.out.below B4'.out).more B4'.out.size)
  have S4 := Lib.hid B3.out.size
  clear h E4 q0 q1 q2 q3 q4 q5 R3 KN3 HR3 B4'
  have q0 := KN4.out.cell 0
  simp at q0
  go_wp2
  go_ret2
  refine .inl ⟨HM.out, _, rfl, ?_, B4.out⟩
  have he : L4 = En.enc ⟨4, s, n, ⟨#[]⟩, [], false⟩ := by rw [e4.out, e3.out, e2.out]; rfl
  rw [he] at O4 ⊢
  exact owns_less O4.out S4.out
set_option maxRecDepth 100000 in
set_option maxHeartbeats 1600000 in
theorem enc_5_false {w : World} {A : Option Addr} {c : Nat} (s : Int) (key : ByteArray) (v : List UInt8) (hm : En.may ⟨5, s, 0, key, v, false⟩) (hr : BReads w w.heap.size A v) :
    Calls Tryz.prog 134 #[.agg (En.cells ⟨5, s, 0, key, v, false⟩ A c)] w (EncPost w ⟨5, s, 0, key, v, false⟩) := by
  have HC := Lib.hid (En.chk_ok hm)
  have HM := Lib.hid hm
  have hbd := En.may_bounds hm
  simp only at hbd
  have a5 := Lib.hid (str_length key)
  clear hm
  have BA := Lib.hid ((Below.refl w.heap.size w).alloc (Nat.le_refl _) (.cells #[.int .i64 5, .int .i64 s, .int .i64 0, .string key, .slice A v.length c, .bool false] 105))
  have KN := Lib.hid (Blk.new w 105 #[.int .i64 5, .int .i64 s, .int .i64 0, .string key, .slice A v.length c, .bool false])
  unfold En.cells
  simp only
  have HR := Lib.hid ((hr.below BA.out).more BA.out.size)
  clear hr
  go_enter Tryz.func134, Tryz.ntmps134
  go_wp2_with fail
  obtain ⟨W, hW⟩ : ∃ x, x = w.alloc (.cells #[.int .i64 5, .int .i64 s, .int .i64 0, .string key, .slice A v.length c, .bool false] 105) := ⟨_, rfl⟩
  obtain ⟨T, hT⟩ : ∃ x, x = w.heap.size := ⟨_, rfl⟩
  have HT := Lib.hid hT
  rw [← hW, ← hT] at KN
  rw [← hW] at BA HR
  rw [← hW, ← hT]
  clear hW hT
  refine (check_any ⟨5, s, 0, key, v, false⟩ (by simp <;> omega) (by simp <;> omega)).mono ?_
  rintro e w1 ⟨rfl, hb⟩
  rw [HC.out]
  have KN1 := Lib.hid (KN.out.below' hb)
  have HR1 := Lib.hid ((HR.out.below hb).more hb.size)
  have B1 := Lib.hid (BA.out.trans (hb.mono BA.out.size))
  clear hb KN HR BA
  have x0 := KN1.out.cell 0
  simp at x0
  go_wp2
  go_region_held3 (fun w' => w'.cell? ⟨T, 0, none⟩ = some (.int .i64 5)) (first | assumption) (first | (go_at_call 173; refine (put8_any (w := w1.drew) (A := none) (c := 0) (l := []) (B := 0) 5 Reads.none_ (by decide) (by simp)).mono ?_; rintro e w2 h; obtain ⟨L2, A2, c2, rfl, E2, _, R2, B2⟩ := h.named; have HB2 := Lib.hid (show Below w1.heap.size w1 w2 from ⟨B2.out.os, B2.out.tape, B2.out.output, B2.out.size, B2.out.block⟩); have KN2 := Lib.hid (KN1.out.below' HB2.out); have y0 := KN2.out.cell 0; simp at y0; clear h B2) | (go_at_call 149; refine (fields_any 5).mono ?_; rintro e w3 ⟨rfl, rfl⟩; rw [show fieldsF 5 = 27 from rfl]))
  have B2 := Lib.hid (B1.out.trans (HB2.out.mono B1.out.size))
  have HR2 := Lib.hid ((HR1.out.below HB2.out).more HB2.out.size)
  have e2 := Lib.hid (show L2 = [5] from by rw [E2.out]; rfl)
  have l2 : L2.length ≤ 1 := by rw [e2.out]; simp
  clear E2 x0 y0 HB2 KN1 HR1 B1
  have b1 := and_27_1
  have b2 := and_27_2
  have b4 := and_27_4
  have b8 := and_27_8
  have b16 := and_27_16
  have q0 := KN2.out.cell 0
  have q1 := KN2.out.cell 1
  have q2 := KN2.out.cell 2
  have q3 := KN2.out.cell 3
  have q4 := KN2.out.cell 4
  have q5 := KN2.out.cell 5
  simp at q0 q1 q2 q3 q4 q5
  go_wp2_with fail
  refine (putText_any key R2.out (by omega) (by omega)).mono ?_
  rintro e w3 h
  obtain ⟨L3, A3, c3, rfl, E3, O3, R3, B3'⟩ := h.named
  have e3 := Lib.hid (show L3 = L2 ++ intF key.size ++ key.data.toList from E3.out)
  have l3 : L3.length ≤ 271 := by rw [e3.out]; exact (by have := intF_length (n := (key.size : Int)) (by omega) (by omega); have := a5.out; simp only [List.length_append]; omega)
  have B3 := Lib.hid (B2.out.trans (B3'.out.mono B2.out.size))
  have KN3 := Lib.hid (KN2.out.below' B3'.out)
  have HR3 := Lib.hid ((HR2.out.below B3'.out).more B3'.out.size)
  have S3 := Lib.hid B2.out.size
  clear h E3 q0 q1 q2 q3 q4 q5 R2 KN2 HR2 B3'
  have q0 := KN3.out.cell 0
  have q1 := KN3.out.cell 1
  have q2 := KN3.out.cell 2
  have q3 := KN3.out.cell 3
  have q4 := KN3.out.cell 4
  have q5 := KN3.out.cell 5
  simp at q0 q1 q2 q3 q4 q5
  go_wp2_with fail
  refine (putInt_any s R3.out (by omega) (by omega) (by omega)).mono ?_
  rintro e w4 h
  obtain ⟨L4, A4, c4, rfl, E4, O4, R4, B4'⟩ := h.named
  have e4 := Lib.hid (show L4 = L3 ++ intF s from E4.out)
  have l4 : L4.length ≤ 281 := by rw [e4.out]; exact (by have := intF_length (n := s) (by omega) (by omega); simp only [List.length_append]; omega)
  have B4 := Lib.hid (B3.out.trans (B4'.out.mono B3.out.size))
  have KN4 := Lib.hid (KN3.out.below' B4'.out)
  have HR4 := Lib.hid ((HR3.out.below B4'.out).more B4'.out.size)
  have S4 := Lib.hid B3.out.size
  clear h E4 q0 q1 q2 q3 q4 q5 R3 KN3 HR3 B4'
  have q0 := KN4.out.cell 0
  have q1 := KN4.out.cell 1
  have q2 := KN4.out.cell 2
  have q3 := KN4.out.cell 3
  have q4 := KN4.out.cell 4
  have q5 := KN4.out.cell 5
  simp at q0 q1 q2 q3 q4 q5
  go_wp2_with fail
  refine (put8_any 0 R4.out (by decide) (by omega)).mono ?_
  rintro e w5 h
  obtain ⟨L5, A5, c5, rfl, E5, O5, R5, B5'⟩ := h.named
  have e5 := Lib.hid (show L5 = L4 ++ [0] from by rw [E5.out]; rfl)
  have l5 : L5.length ≤ 282 := by rw [e5.out]; exact (by simp only [List.length_append, List.length_cons, List.length_nil]; omega)
  have B5 := Lib.hid (B4.out.trans (B5'.out.mono B4.out.size))
  have KN5 := Lib.hid (KN4.out.below' B5'.out)
  have HR5 := Lib.hid ((HR4.out.below B5'.out).more B5'.out.size)
  have S5 := Lib.hid B4.out.size
  clear h E5 q0 q1 q2 q3 q4 q5 R4 KN4 HR4 B5'
  have q0 := KN5.out.cell 0
  have q1 := KN5.out.cell 1
  have q2 := KN5.out.cell 2
  have q3 := KN5.out.cell 3
  have q4 := KN5.out.cell 4
  have q5 := KN5.out.cell 5
  simp at q0 q1 q2 q3 q4 q5
  go_wp2_with fail
  refine (putBytes_any (p := v) R5.out HR5.out (Nat.le_refl _) (by (try simp only [List.length_nil]); omega)).mono ?_
  rintro e w6 h
  obtain ⟨L6, A6, c6, rfl, E6, O6, R6, B6'⟩ := h.named
  have e6 := Lib.hid (show L6 = L5 ++ intF (v).length ++ v from E6.out)
  have l6 : L6.length ≤ 4482 := by rw [e6.out]; exact (by have := intF_length (n := ((v).length : Int)) (by (try simp only [List.length_nil]); omega) (by (try simp only [List.length_nil]); omega); simp only [List.length_append]; (try simp only [List.length_nil] at *); omega)
  have B6 := Lib.hid (B5.out.trans (B6'.out.mono B5.out.size))
  have KN6 := Lib.hid (KN5.out.below' B6'.out)
  have HR6 := Lib.hid ((HR5.out.below B6'.out).more B6'.out.size)
  have S6 := Lib.hid B5.out.size
  clear h E6 q0 q1 q2 q3 q4 q5 R5 KN5 HR5 B6'
  have q0 := KN6.out.cell 0
  simp at q0
  go_wp2
  go_ret2
  refine .inl ⟨HM.out, _, rfl, ?_, B6.out⟩
  have he : L6 = En.enc ⟨5, s, 0, key, v, false⟩ := by rw [e6.out, e5.out, e4.out, e3.out, e2.out]; rfl
  rw [he] at O6 ⊢
  exact owns_less O6.out S6.out
set_option maxRecDepth 100000 in
set_option maxHeartbeats 1600000 in
theorem enc_5_true {w : World} {A : Option Addr} {c : Nat} (s : Int) (key : ByteArray) (hm : En.may ⟨5, s, 0, key, [], true⟩) (hr : BReads w w.heap.size A ([] : List UInt8)) :
    Calls Tryz.prog 134 #[.agg (En.cells ⟨5, s, 0, key, [], true⟩ A c)] w (EncPost w ⟨5, s, 0, key, [], true⟩) := by
  have HC := Lib.hid (En.chk_ok hm)
  have HM := Lib.hid hm
  have hbd := En.may_bounds hm
  simp only at hbd
  have a5 := Lib.hid (str_length key)
  clear hm
  have BA := Lib.hid ((Below.refl w.heap.size w).alloc (Nat.le_refl _) (.cells #[.int .i64 5, .int .i64 s, .int .i64 0, .string key, .slice A 0 c, .bool true] 105))
  have KN := Lib.hid (Blk.new w 105 #[.int .i64 5, .int .i64 s, .int .i64 0, .string key, .slice A 0 c, .bool true])
  unfold En.cells
  simp only
  have HR := Lib.hid ((hr.below BA.out).more BA.out.size)
  clear hr
  go_enter Tryz.func134, Tryz.ntmps134
  go_wp2_with fail
  obtain ⟨W, hW⟩ : ∃ x, x = w.alloc (.cells #[.int .i64 5, .int .i64 s, .int .i64 0, .string key, .slice A 0 c, .bool true] 105) := ⟨_, rfl⟩
  obtain ⟨T, hT⟩ : ∃ x, x = w.heap.size := ⟨_, rfl⟩
  have HT := Lib.hid hT
  rw [← hW, ← hT] at KN
  rw [← hW] at BA HR
  rw [← hW, ← hT]
  clear hW hT
  refine (check_any ⟨5, s, 0, key, [], true⟩ (by simp <;> omega) (by simp <;> omega)).mono ?_
  rintro e w1 ⟨rfl, hb⟩
  rw [HC.out]
  have KN1 := Lib.hid (KN.out.below' hb)
  have HR1 := Lib.hid ((HR.out.below hb).more hb.size)
  have B1 := Lib.hid (BA.out.trans (hb.mono BA.out.size))
  clear hb KN HR BA
  have x0 := KN1.out.cell 0
  simp at x0
  go_wp2
  go_region_held3 (fun w' => w'.cell? ⟨T, 0, none⟩ = some (.int .i64 5)) (first | assumption) (first | (go_at_call 173; refine (put8_any (w := w1.drew) (A := none) (c := 0) (l := []) (B := 0) 5 Reads.none_ (by decide) (by simp)).mono ?_; rintro e w2 h; obtain ⟨L2, A2, c2, rfl, E2, _, R2, B2⟩ := h.named; have HB2 := Lib.hid (show Below w1.heap.size w1 w2 from ⟨B2.out.os, B2.out.tape, B2.out.output, B2.out.size, B2.out.block⟩); have KN2 := Lib.hid (KN1.out.below' HB2.out); have y0 := KN2.out.cell 0; simp at y0; clear h B2) | (go_at_call 149; refine (fields_any 5).mono ?_; rintro e w3 ⟨rfl, rfl⟩; rw [show fieldsF 5 = 27 from rfl]))
  have B2 := Lib.hid (B1.out.trans (HB2.out.mono B1.out.size))
  have HR2 := Lib.hid ((HR1.out.below HB2.out).more HB2.out.size)
  have e2 := Lib.hid (show L2 = [5] from by rw [E2.out]; rfl)
  have l2 : L2.length ≤ 1 := by rw [e2.out]; simp
  clear E2 x0 y0 HB2 KN1 HR1 B1
  have b1 := and_27_1
  have b2 := and_27_2
  have b4 := and_27_4
  have b8 := and_27_8
  have b16 := and_27_16
  have q0 := KN2.out.cell 0
  have q1 := KN2.out.cell 1
  have q2 := KN2.out.cell 2
  have q3 := KN2.out.cell 3
  have q4 := KN2.out.cell 4
  have q5 := KN2.out.cell 5
  simp at q0 q1 q2 q3 q4 q5
  go_wp2_with fail
  refine (putText_any key R2.out (by omega) (by omega)).mono ?_
  rintro e w3 h
  obtain ⟨L3, A3, c3, rfl, E3, O3, R3, B3'⟩ := h.named
  have e3 := Lib.hid (show L3 = L2 ++ intF key.size ++ key.data.toList from E3.out)
  have l3 : L3.length ≤ 271 := by rw [e3.out]; exact (by have := intF_length (n := (key.size : Int)) (by omega) (by omega); have := a5.out; simp only [List.length_append]; omega)
  have B3 := Lib.hid (B2.out.trans (B3'.out.mono B2.out.size))
  have KN3 := Lib.hid (KN2.out.below' B3'.out)
  have HR3 := Lib.hid ((HR2.out.below B3'.out).more B3'.out.size)
  have S3 := Lib.hid B2.out.size
  clear h E3 q0 q1 q2 q3 q4 q5 R2 KN2 HR2 B3'
  have q0 := KN3.out.cell 0
  have q1 := KN3.out.cell 1
  have q2 := KN3.out.cell 2
  have q3 := KN3.out.cell 3
  have q4 := KN3.out.cell 4
  have q5 := KN3.out.cell 5
  simp at q0 q1 q2 q3 q4 q5
  go_wp2_with fail
  refine (putInt_any s R3.out (by omega) (by omega) (by omega)).mono ?_
  rintro e w4 h
  obtain ⟨L4, A4, c4, rfl, E4, O4, R4, B4'⟩ := h.named
  have e4 := Lib.hid (show L4 = L3 ++ intF s from E4.out)
  have l4 : L4.length ≤ 281 := by rw [e4.out]; exact (by have := intF_length (n := s) (by omega) (by omega); simp only [List.length_append]; omega)
  have B4 := Lib.hid (B3.out.trans (B4'.out.mono B3.out.size))
  have KN4 := Lib.hid (KN3.out.below' B4'.out)
  have HR4 := Lib.hid ((HR3.out.below B4'.out).more B4'.out.size)
  have S4 := Lib.hid B3.out.size
  clear h E4 q0 q1 q2 q3 q4 q5 R3 KN3 HR3 B4'
  have q0 := KN4.out.cell 0
  have q1 := KN4.out.cell 1
  have q2 := KN4.out.cell 2
  have q3 := KN4.out.cell 3
  have q4 := KN4.out.cell 4
  have q5 := KN4.out.cell 5
  simp at q0 q1 q2 q3 q4 q5
  go_wp2_with fail
  refine (put8_any 1 R4.out (by decide) (by omega)).mono ?_
  rintro e w5 h
  obtain ⟨L5, A5, c5, rfl, E5, O5, R5, B5'⟩ := h.named
  have e5 := Lib.hid (show L5 = L4 ++ [1] from by rw [E5.out]; rfl)
  have l5 : L5.length ≤ 282 := by rw [e5.out]; exact (by simp only [List.length_append, List.length_cons, List.length_nil]; omega)
  have B5 := Lib.hid (B4.out.trans (B5'.out.mono B4.out.size))
  have KN5 := Lib.hid (KN4.out.below' B5'.out)
  have HR5 := Lib.hid ((HR4.out.below B5'.out).more B5'.out.size)
  have S5 := Lib.hid B4.out.size
  clear h E5 q0 q1 q2 q3 q4 q5 R4 KN4 HR4 B5'
  have q0 := KN5.out.cell 0
  have q1 := KN5.out.cell 1
  have q2 := KN5.out.cell 2
  have q3 := KN5.out.cell 3
  have q4 := KN5.out.cell 4
  have q5 := KN5.out.cell 5
  simp at q0 q1 q2 q3 q4 q5
  go_wp2_with fail
  refine (putBytes_any (p := ([] : List UInt8)) R5.out HR5.out (Nat.le_refl _) (by (try simp only [List.length_nil]); omega)).mono ?_
  rintro e w6 h
  obtain ⟨L6, A6, c6, rfl, E6, O6, R6, B6'⟩ := h.named
  have e6 := Lib.hid (show L6 = L5 ++ intF (([] : List UInt8)).length ++ ([] : List UInt8) from E6.out)
  have l6 : L6.length ≤ 4482 := by rw [e6.out]; exact (by have := intF_length (n := ((([] : List UInt8)).length : Int)) (by (try simp only [List.length_nil]); omega) (by (try simp only [List.length_nil]); omega); simp only [List.length_append]; (try simp only [List.length_nil] at *); omega)
  have B6 := Lib.hid (B5.out.trans (B6'.out.mono B5.out.size))
  have KN6 := Lib.hid (KN5.out.below' B6'.out)
  have HR6 := Lib.hid ((HR5.out.below B6'.out).more B6'.out.size)
  have S6 := Lib.hid B5.out.size
  clear h E6 q0 q1 q2 q3 q4 q5 R5 KN5 HR5 B6'
  have q0 := KN6.out.cell 0
  simp at q0
  go_wp2
  go_ret2
  refine .inl ⟨HM.out, _, rfl, ?_, B6.out⟩
  have he : L6 = En.enc ⟨5, s, 0, key, [], true⟩ := by rw [e6.out, e5.out, e4.out, e3.out, e2.out]; rfl
  rw [he] at O6 ⊢
  exact owns_less O6.out S6.out
set_option maxRecDepth 100000 in
set_option maxHeartbeats 1600000 in
theorem enc_6_false {w : World} {A : Option Addr} {c : Nat} (s n : Int) (hm : En.may ⟨6, s, n, ⟨#[]⟩, [], false⟩) (hr : BReads w w.heap.size A ([] : List UInt8)) :
    Calls Tryz.prog 134 #[.agg (En.cells ⟨6, s, n, ⟨#[]⟩, [], false⟩ A c)] w (EncPost w ⟨6, s, n, ⟨#[]⟩, [], false⟩) := by
  have HC := Lib.hid (En.chk_ok hm)
  have HM := Lib.hid hm
  have hbd := En.may_bounds hm
  simp only at hbd
  clear hm
  have BA := Lib.hid ((Below.refl w.heap.size w).alloc (Nat.le_refl _) (.cells #[.int .i64 6, .int .i64 s, .int .i64 n, .string ⟨#[]⟩, .slice A 0 c, .bool false] 105))
  have KN := Lib.hid (Blk.new w 105 #[.int .i64 6, .int .i64 s, .int .i64 n, .string ⟨#[]⟩, .slice A 0 c, .bool false])
  unfold En.cells
  simp only
  have HR := Lib.hid ((hr.below BA.out).more BA.out.size)
  clear hr
  go_enter Tryz.func134, Tryz.ntmps134
  go_wp2_with fail
  obtain ⟨W, hW⟩ : ∃ x, x = w.alloc (.cells #[.int .i64 6, .int .i64 s, .int .i64 n, .string ⟨#[]⟩, .slice A 0 c, .bool false] 105) := ⟨_, rfl⟩
  obtain ⟨T, hT⟩ : ∃ x, x = w.heap.size := ⟨_, rfl⟩
  have HT := Lib.hid hT
  rw [← hW, ← hT] at KN
  rw [← hW] at BA HR
  rw [← hW, ← hT]
  clear hW hT
  refine (check_any ⟨6, s, n, ⟨#[]⟩, [], false⟩ (by simp <;> omega) (by simp <;> omega)).mono ?_
  rintro e w1 ⟨rfl, hb⟩
  rw [HC.out]
  have KN1 := Lib.hid (KN.out.below' hb)
  have HR1 := Lib.hid ((HR.out.below hb).more hb.size)
  have B1 := Lib.hid (BA.out.trans (hb.mono BA.out.size))
  clear hb KN HR BA
  have x0 := KN1.out.cell 0
  simp at x0
  go_wp2
  go_region_held3 (fun w' => w'.cell? ⟨T, 0, none⟩ = some (.int .i64 6)) (first | assumption) (first | (go_at_call 173; refine (put8_any (w := w1.drew) (A := none) (c := 0) (l := []) (B := 0) 6 Reads.none_ (by decide) (by simp)).mono ?_; rintro e w2 h; obtain ⟨L2, A2, c2, rfl, E2, _, R2, B2⟩ := h.named; have HB2 := Lib.hid (show Below w1.heap.size w1 w2 from ⟨B2.out.os, B2.out.tape, B2.out.output, B2.out.size, B2.out.block⟩); have KN2 := Lib.hid (KN1.out.below' HB2.out); have y0 := KN2.out.cell 0; simp at y0; clear h B2) | (go_at_call 149; refine (fields_any 6).mono ?_; rintro e w3 ⟨rfl, rfl⟩; rw [show fieldsF 6 = 6 from rfl]))
  have B2 := Lib.hid (B1.out.trans (HB2.out.mono B1.out.size))
  have HR2 := Lib.hid ((HR1.out.below HB2.out).more HB2.out.size)
  have e2 := Lib.hid (show L2 = [6] from by rw [E2.out]; rfl)
  have l2 : L2.length ≤ 1 := by rw [e2.out]; simp
  clear E2 x0 y0 HB2 KN1 HR1 B1
  have b1 := and_6_1
  have b2 := and_6_2
  have b4 := and_6_4
  have b8 := and_6_8
  have b16 := and_6_16
  have q0 := KN2.out.cell 0
  have q1 := KN2.out.cell 1
  have q2 := KN2.out.cell 2
  have q3 := KN2.out.cell 3
  have q4 := KN2.out.cell 4
  have q5 := KN2.out.cell 5
  simp at q0 q1 q2 q3 q4 q5
  go_wp2_with fail
  refine (putInt_any s R2.out (by omega) (by omega) (by omega)).mono ?_
  rintro e w3 h
  obtain ⟨L3, A3, c3, rfl, E3, O3, R3, B3'⟩ := h.named
  have e3 := Lib.hid (show L3 = L2 ++ intF s from E3.out)
  have l3 : L3.length ≤ 11 := by rw [e3.out]; exact (by have := intF_length (n := s) (by omega) (by omega); simp only [List.length_append]; omega)
  have B3 := Lib.hid (B2.out.trans (B3'.out.mono B2.out.size))
  have KN3 := Lib.hid (KN2.out.below' B3'.out)
  have HR3 := Lib.hid ((HR2.out.below B3'.out).more B3'.out.size)
  have S3 := Lib.hid B2.out.size
  clear h E3 q0 q1 q2 q3 q4 q5 R2 KN2 HR2 B3'
  have q0 := KN3.out.cell 0
  have q1 := KN3.out.cell 1
  have q2 := KN3.out.cell 2
  have q3 := KN3.out.cell 3
  have q4 := KN3.out.cell 4
  have q5 := KN3.out.cell 5
  simp at q0 q1 q2 q3 q4 q5
  go_wp2_with fail
  refine (putInt_any n R3.out (by omega) (by omega) (by omega)).mono ?_
  rintro e w4 h
  obtain ⟨L4, A4, c4, rfl, E4, O4, R4, B4'⟩ := h.named
  have e4 := Lib.hid (show L4 = L3 ++ intF n from E4.out)
  have l4 : L4.length ≤ 21 := by rw [e4.out]; exact (by have := intF_length (n := n) (by omega) (by omega); simp only [List.length_append]; omega)
  have B4 := Lib.hid (B3.out.trans (B4'.out.mono B3.out.size))
  have KN4 := Lib.hid (KN3.out.below' B4'.out)
  have HR4 := Lib.hid ((HR3.out.below B4'.out).more B4'.out.size)
  have S4 := Lib.hid B3.out.size
  clear h E4 q0 q1 q2 q3 q4 q5 R3 KN3 HR3 B4'
  have q0 := KN4.out.cell 0
  simp at q0
  go_wp2
  go_ret2
  refine .inl ⟨HM.out, _, rfl, ?_, B4.out⟩
  have he : L4 = En.enc ⟨6, s, n, ⟨#[]⟩, [], false⟩ := by rw [e4.out, e3.out, e2.out]; rfl
  rw [he] at O4 ⊢
  exact owns_less O4.out S4.out
theorem enc_no {w : World} {A : Option Addr} {c : Nat} (x : En) (hm : ¬ x.may) (hks : x.key.size ≤ 140737488355328) (hvl : x.value.length ≤ 140737488355328) :
    Calls Tryz.prog 134 #[.agg (x.cells A c)] w (EncPost w x) := by
  obtain ⟨k, s, n, key, v, d⟩ := x
  have HC := Lib.hid (En.chk_no hm)
  have HM := Lib.hid hm
  clear hm
  unfold En.cells
  simp only at hks hvl ⊢
  go_enter Tryz.func134, Tryz.ntmps134
  go_wp2_with fail
  refine (check_any ⟨k, s, n, key, v, d⟩ hks hvl).mono ?_
  rintro e w1 ⟨rfl, hb⟩
  rw [HC.out]
  have B1 := Lib.hid (below_alloc1 hb)
  clear hb
  go_wp2
  go_ret2
  exact .inr ⟨HM.out, rfl, B1.out⟩
theorem encode_any {w : World} {A : Option Addr} {c : Nat} (x : En) (hr : BReads w w.heap.size A x.value) (hks : x.key.size ≤ 140737488355328) (hvl : x.value.length ≤ 140737488355328) :
    Calls Tryz.prog 134 #[.agg (x.cells A c)] w (EncPost w x) := by
  by_cases hm : x.may
  · obtain ⟨k, s, n, key, v, d⟩ := x
    have hb := En.may_bounds hm
    have hm0 := hm
    simp only at hb hr
    rcases (show k = 1 ∨ k = 2 ∨ (k = 3 ∨ k = 4 ∨ k = 6) ∨ k = 5 from by omega) with rfl | rfl | hk | rfl
    · rw [may_1] at hm0
      obtain ⟨_, _, rfl, rfl, rfl, _⟩ := hm0
      exact enc_1_false key v hm hr
    · rw [may_2] at hm0
      obtain ⟨_, _, rfl, rfl, rfl, hv⟩ := hm0
      obtain rfl := List.eq_nil_of_length_eq_zero hv
      exact enc_2_false key hm hr
    · rw [may_m hk] at hm0
      obtain ⟨hkz, _, _, _, _, rfl, hv⟩ := hm0
      obtain rfl := List.eq_nil_of_length_eq_zero hv
      obtain rfl := str_empty hkz
      rcases hk with rfl | rfl | rfl
      · exact enc_3_false s n hm hr
      · exact enc_4_false s n hm hr
      · exact enc_6_false s n hm hr
    · rw [may_5] at hm0
      obtain ⟨_, _, _, _, rfl, _, hv⟩ := hm0
      cases d
      · exact enc_5_false s key v hm hr
      · obtain rfl := List.eq_nil_of_length_eq_zero (hv rfl)
        exact enc_5_true s key hm hr
  · exact enc_no x hm hks hvl
end Go.Proofs.YtmnpchncmbnddaaGreat
