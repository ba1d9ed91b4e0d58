/- CodecRises: the law's walk (printed by a program of this claim's own). -/
import Derived.Test.YtoeccclaaogihaaCmp
import Derived.Test.YtoeccclaaogihaaPutN
import Derived.Test.YtoeccclaaogihaaFixed
namespace Go.Proofs.Ytoeccclaaogihaa
open Go.RowKit
set_option maxRecDepth 100000 in
set_option maxHeartbeats 3200000 in
theorem codecRises_walk {w : World} (a : Int) (ha0 : 0 ≤ a) (ha1 : a ≤ 18446744073709551615) (b : Int) (hb0 : 0 ≤ b) (hb1 : b ≤ 18446744073709551615) :
    Calls Try.prog 18 #[.int .u64 a, .int .u64 b] w fun e w' => e = .returned (.bool true) ∧ Below w.heap.size w w' := by
  obtain ⟨u, rfl⟩ := Int.eq_ofNat_of_zero_le ha0
  obtain ⟨v, rfl⟩ := Int.eq_ofNat_of_zero_le hb0
  have HU := Lib.hid (show u < 18446744073709551616 from by omega)
  have HV := Lib.hid (show v < 18446744073709551616 from by omega)
  clear ha0 ha1 hb0 hb1
  obtain ⟨u8, hq⟩ : ∃ q, q = u % 256 := ⟨_, rfl⟩
  have Xu8 := Lib.hid (show u8 < 256 from by omega)
  have hu8 : (u8 : Int) < 256 := by omega
  have eu8 : (u : Int) % 256 = (u8 : Int) := by omega
  have wu8 : IntKind.u8.wrap (u : Int) = (u8 : Int) := by rw [IntKind.wrap_u8]; omega
  have yu8 : IntKind.u64.wrap (u8 : Int) = (u8 : Int) := by rw [wrap_u64]; omega
  clear hq
  obtain ⟨u16, hq⟩ : ∃ q, q = u % 65536 := ⟨_, rfl⟩
  have Xu16 := Lib.hid (show u16 < 65536 from by omega)
  have hu16 : (u16 : Int) < 65536 := by omega
  have eu16 : (u : Int) % 65536 = (u16 : Int) := by omega
  have wu16 : IntKind.u16.wrap (u : Int) = (u16 : Int) := by rw [IntKind.wrap_u16]; omega
  have yu16 : IntKind.u64.wrap (u16 : Int) = (u16 : Int) := by rw [wrap_u64]; omega
  clear hq
  obtain ⟨u32, hq⟩ : ∃ q, q = u % 4294967296 := ⟨_, rfl⟩
  have Xu32 := Lib.hid (show u32 < 4294967296 from by omega)
  have hu32 : (u32 : Int) < 4294967296 := by omega
  have eu32 : (u : Int) % 4294967296 = (u32 : Int) := by omega
  have wu32 : IntKind.u32.wrap (u : Int) = (u32 : Int) := by rw [IntKind.wrap_u32']; omega
  have yu32 : IntKind.u64.wrap (u32 : Int) = (u32 : Int) := by rw [wrap_u64]; omega
  clear hq
  obtain ⟨v8, hq⟩ : ∃ q, q = v % 256 := ⟨_, rfl⟩
  have Xv8 := Lib.hid (show v8 < 256 from by omega)
  have hv8 : (v8 : Int) < 256 := by omega
  have ev8 : (v : Int) % 256 = (v8 : Int) := by omega
  have wv8 : IntKind.u8.wrap (v : Int) = (v8 : Int) := by rw [IntKind.wrap_u8]; omega
  have yv8 : IntKind.u64.wrap (v8 : Int) = (v8 : Int) := by rw [wrap_u64]; omega
  clear hq
  obtain ⟨v16, hq⟩ : ∃ q, q = v % 65536 := ⟨_, rfl⟩
  have Xv16 := Lib.hid (show v16 < 65536 from by omega)
  have hv16 : (v16 : Int) < 65536 := by omega
  have ev16 : (v : Int) % 65536 = (v16 : Int) := by omega
  have wv16 : IntKind.u16.wrap (v : Int) = (v16 : Int) := by rw [IntKind.wrap_u16]; omega
  have yv16 : IntKind.u64.wrap (v16 : Int) = (v16 : Int) := by rw [wrap_u64]; omega
  clear hq
  obtain ⟨v32, hq⟩ : ∃ q, q = v % 4294967296 := ⟨_, rfl⟩
  have Xv32 := Lib.hid (show v32 < 4294967296 from by omega)
  have hv32 : (v32 : Int) < 4294967296 := by omega
  have ev32 : (v : Int) % 4294967296 = (v32 : Int) := by omega
  have wv32 : IntKind.u32.wrap (v : Int) = (v32 : Int) := by rw [IntKind.wrap_u32']; omega
  have yv32 : IntKind.u64.wrap (v32 : Int) = (v32 : Int) := by rw [wrap_u64]; omega
  clear hq
  go_enter Try.func18, Try.ntmps18
  go_wp2_with fail
  refine (put64_any (A := none) (c := 0) (l := []) (B := 0) u Reads.none_ HU.out (by simp)).mono ?_
  rintro e wa64 h
  obtain ⟨L2, A2, c2, rfl, E2, _, R2, B2⟩ := h.named
  have BA64 := Lib.hid ((Below.refl w.heap.size w).trans (B2.out.mono (Below.refl w.heap.size w).size))
  clear h B2
  go_wp2_with fail
  refine (put64_any (A := none) (c := 0) (l := []) (B := 0) v Reads.none_ HV.out (by simp)).mono ?_
  rintro e wb64 h
  obtain ⟨L3, A3, c3, rfl, E3, _, R3, B3⟩ := h.named
  have R2b := hid_up R2 B3
  have BA := hid_below BA64 B3
  have hL : L2.length ≤ 140737488355328 := by rw [E2.out, List.nil_append, beN_length]; omega
  clear h B3 BA64 R2
  go_wp2_with fail
  refine (compare_any R2b.out R3.out hL).mono ?_
  rintro e wc64 ⟨rfl, rfl⟩
  have hc : cmpF L2 L3 = ordI u v := by
    rw [E2.out, E3.out, List.nil_append, List.nil_append, cmpF_beN]
    congr 1 <;> (apply Nat.mod_eq_of_lt; first | exact Nat.lt_of_lt_of_le HU.out (by decide) | exact Nat.lt_of_lt_of_le HV.out (by decide))
  rw [hc]
  clear hc hL E2 E3 R2b R3
  go_wp2_with fail
  refine (order_any u v).mono ?_
  rintro e wd64 ⟨rfl, rfl⟩
  obtain ⟨o64, ho⟩ : ∃ o, o = ordI u v := ⟨_, rfl⟩
  rw [← ho]
  clear ho
  have he64 : (o64 == o64) = true := by simp
  go_wp2_with fail
  refine codecFixed_any.mono ?_
  rintro e w9 ⟨rfl, hb⟩
  have BB1 := Lib.hid (BA.out.trans (hb.mono BA.out.size))
  clear hb BA
  go_wp2_with fail
  refine (put32_any (A := none) (c := 0) (l := []) (B := 0) u32 Reads.none_ Xu32.out (by simp)).mono ?_
  rintro e wa32 h
  obtain ⟨L2, A2, c2, rfl, E2, _, R2, B2⟩ := h.named
  have BA32 := Lib.hid (BB1.out.trans (B2.out.mono BB1.out.size))
  clear h B2
  go_wp2_with fail
  refine (put32_any (A := none) (c := 0) (l := []) (B := 0) v32 Reads.none_ Xv32.out (by simp)).mono ?_
  rintro e wb32 h
  obtain ⟨L3, A3, c3, rfl, E3, _, R3, B3⟩ := h.named
  have R2b := hid_up R2 B3
  have BA := hid_below BA32 B3
  have hL : L2.length ≤ 140737488355328 := by rw [E2.out, List.nil_append, beN_length]; omega
  clear h B3 BA32 R2
  go_wp2_with fail
  refine (compare_any R2b.out R3.out hL).mono ?_
  rintro e wc32 ⟨rfl, rfl⟩
  have hc : cmpF L2 L3 = ordI u32 v32 := by
    rw [E2.out, E3.out, List.nil_append, List.nil_append, cmpF_beN]
    congr 1 <;> (apply Nat.mod_eq_of_lt; first | exact Nat.lt_of_lt_of_le Xu32.out (by decide) | exact Nat.lt_of_lt_of_le Xv32.out (by decide))
  rw [hc]
  clear hc hL E2 E3 R2b R3
  go_wp2_with fail
  refine (order_any u32 v32).mono ?_
  rintro e wd32 ⟨rfl, rfl⟩
  obtain ⟨o32, ho⟩ : ∃ o, o = ordI u32 v32 := ⟨_, rfl⟩
  rw [← ho]
  clear ho
  have he32 : (o32 == o32) = true := by simp
  have BB2 := BA
  clear BA
  go_wp2_with fail
  refine (put16_any (A := none) (c := 0) (l := []) (B := 0) u16 Reads.none_ Xu16.out (by simp)).mono ?_
  rintro e wa16 h
  obtain ⟨L2, A2, c2, rfl, E2, _, R2, B2⟩ := h.named
  have BA16 := Lib.hid (BB2.out.trans (B2.out.mono BB2.out.size))
  clear h B2
  go_wp2_with fail
  refine (put16_any (A := none) (c := 0) (l := []) (B := 0) v16 Reads.none_ Xv16.out (by simp)).mono ?_
  rintro e wb16 h
  obtain ⟨L3, A3, c3, rfl, E3, _, R3, B3⟩ := h.named
  have R2b := hid_up R2 B3
  have BA := hid_below BA16 B3
  have hL : L2.length ≤ 140737488355328 := by rw [E2.out, List.nil_append, beN_length]; omega
  clear h B3 BA16 R2
  go_wp2_with fail
  refine (compare_any R2b.out R3.out hL).mono ?_
  rintro e wc16 ⟨rfl, rfl⟩
  have hc : cmpF L2 L3 = ordI u16 v16 := by
    rw [E2.out, E3.out, List.nil_append, List.nil_append, cmpF_beN]
    congr 1 <;> (apply Nat.mod_eq_of_lt; first | exact Nat.lt_of_lt_of_le Xu16.out (by decide) | exact Nat.lt_of_lt_of_le Xv16.out (by decide))
  rw [hc]
  clear hc hL E2 E3 R2b R3
  go_wp2_with fail
  refine (order_any u16 v16).mono ?_
  rintro e wd16 ⟨rfl, rfl⟩
  obtain ⟨o16, ho⟩ : ∃ o, o = ordI u16 v16 := ⟨_, rfl⟩
  rw [← ho]
  clear ho
  have he16 : (o16 == o16) = true := by simp
  have BB3 := BA
  clear BA
  go_wp2_with fail
  refine (put8_any (A := none) (c := 0) (l := []) (B := 0) u8 Reads.none_ Xu8.out (by simp)).mono ?_
  rintro e wa8 h
  obtain ⟨L2, A2, c2, rfl, E2, _, R2, B2⟩ := h.named
  have BA8 := Lib.hid (BB3.out.trans (B2.out.mono BB3.out.size))
  clear h B2
  go_wp2_with fail
  refine (put8_any (A := none) (c := 0) (l := []) (B := 0) v8 Reads.none_ Xv8.out (by simp)).mono ?_
  rintro e wb8 h
  obtain ⟨L3, A3, c3, rfl, E3, _, R3, B3⟩ := h.named
  have R2b := hid_up R2 B3
  have BA := hid_below BA8 B3
  have hL : L2.length ≤ 140737488355328 := by rw [E2.out, List.nil_append, beN_length]; omega
  clear h B3 BA8 R2
  go_wp2_with fail
  refine (compare_any R2b.out R3.out hL).mono ?_
  rintro e wc8 ⟨rfl, rfl⟩
  have hc : cmpF L2 L3 = ordI u8 v8 := by
    rw [E2.out, E3.out, List.nil_append, List.nil_append, cmpF_beN]
    congr 1 <;> (apply Nat.mod_eq_of_lt; first | exact Nat.lt_of_lt_of_le Xu8.out (by decide) | exact Nat.lt_of_lt_of_le Xv8.out (by decide))
  rw [hc]
  clear hc hL E2 E3 R2b R3
  go_wp2_with fail
  refine (order_any u8 v8).mono ?_
  rintro e wd8 ⟨rfl, rfl⟩
  obtain ⟨o8, ho⟩ : ∃ o, o = ordI u8 v8 := ⟨_, rfl⟩
  rw [← ho]
  clear ho
  have he8 : (o8 == o8) = true := by simp
  have BB4 := BA
  clear BA
  go_wp2
  go_ret
  first | exact ⟨rfl, BB4.out⟩ | exact ⟨by simp, BB4.out⟩
end Go.Proofs.Ytoeccclaaogihaa
