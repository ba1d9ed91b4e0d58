/- Reading an entry off its bytes: there and back, in plain words. -/
import Derived.Test.YtnnladfndmdapaaEnt4
import Derived.Test.YtnnladfndmdapaaPlainT
import Derived.Test.YtnnladfndmdapaaPlainF
import Derived.Test.YtnnladfndmdapaaRdl
namespace Go.Proofs.Ytnnladfndmdapaa
open Go.RowKit

theorem blockF_most {p post : List UInt8} {most : Int} (hp : (p.length : Int) ≤ most) (hm : p.length ≤ 9223372036854775807) : blockF most (intF p.length ++ p ++ post) = .ok (p, (intF p.length ++ p).length) := by
  unfold blockF
  rw [if_neg (by omega), List.append_assoc, numberF_there (by omega) (by omega) (by omega) (by omega)]
  simp only [List.length_append]
  rw [if_neg (by omega), List.drop_left, Int.toNat_natCast, List.take_left]
theorem rd_take1 {b : List UInt8} {x : UInt8} {r : List UInt8} {at_ : Nat} (h : b.drop at_ = x :: r) : Rd.take ⟨b, at_, 0⟩ 1 = (x.toNat, ⟨b, at_ + 1, 0⟩) := by
  simp only [Rd.take, Rd.step, h, takeF, if_true]
  rw [if_neg (by simp)]
  simp [beVal]
theorem rd_bytes {b p post : List UInt8} {at_ : Nat} {most : Int} (h : b.drop at_ = intF p.length ++ p ++ post) (hp : (p.length : Int) ≤ most) (hm : p.length ≤ 9223372036854775807) : Rd.bytes ⟨b, at_, 0⟩ most = (p, ⟨b, at_ + (intF p.length ++ p).length, 0⟩) := by
  simp only [Rd.bytes, Rd.step, h, blockF_most hp hm, if_true]
theorem rd_int {b post : List UInt8} {at_ : Nat} {low high n : Int} (h : b.drop at_ = intF n ++ post) (h0 : -9223372036854775808 ≤ n) (h1 : n ≤ 9223372036854775807) (hl : low ≤ n) (hh : n ≤ high) : Rd.int ⟨b, at_, 0⟩ low high = (n, ⟨b, at_ + (intF n).length, 0⟩) := by
  simp only [Rd.int, Rd.step, h, numberF_there h0 h1 hl hh, if_true]
theorem drop_more {b x y : List UInt8} {k : Nat} (h : b.drop k = x ++ y) : b.drop (k + x.length) = y := by
  rw [← List.drop_drop, h, List.drop_left]
theorem rd_end {b : List UInt8} {k : Nat} (h : b.drop k = []) (hk : k ≤ b.length) : Rd.end_ ⟨b, k, 0⟩ = 0 := by
  have : b.length ≤ k := by have := congrArg List.length h; rw [List.length_drop, List.length_nil] at this; omega
  unfold Rd.end_ Rd.left
  simp only [if_true]
  rw [if_neg (by omega)]
theorem ba_eta (s : ByteArray) : (⟨s.data.toList.toArray⟩ : ByteArray) = s := by cases s; simp
theorem enc_head {y : En} (hm : y.may) : ∃ r, y.enc = UInt8.ofNat y.kind.toNat :: r := by
  unfold En.enc
  by_cases h1 : y.kind = 1
  · rw [if_pos h1, h1]; exact ⟨_, rfl⟩
  rw [if_neg h1]
  by_cases h2 : y.kind = 2
  · rw [if_pos h2, h2]; exact ⟨_, rfl⟩
  rw [if_neg h2]
  by_cases h5 : y.kind = 5
  · rw [if_pos h5, h5]; exact ⟨_, rfl⟩
  rw [if_neg h5]; exact ⟨_, rfl⟩
theorem enc_kind {y : En} {b : List UInt8} (hm : y.may) (he : y.enc = b) : Rd.take ⟨b, 0, 0⟩ 1 = (y.kind.toNat, ⟨b, 1, 0⟩) := by
  obtain ⟨r, hr⟩ := enc_head hm
  have hb := En.may_bounds hm
  have := rd_take1 (b := b) (at_ := 0) (x := UInt8.ofNat y.kind.toNat) (r := r) (by rw [← he]; exact hr)
  rw [this, UInt8.toNat_ofNat_of_lt' (by show _ < 256; omega)]
theorem dec_x {b : List UInt8} {k : Nat} {r1 : Rd} (h1 : Rd.take ⟨b, 0, 0⟩ 1 = (k, r1)) (hk : ¬ (1 ≤ k ∧ k ≤ 6)) : ¬ ∃ y : En, y.may ∧ y.enc = b := by
  rintro ⟨y, hm, he⟩
  have := enc_kind hm he
  rw [h1] at this
  injection this with e _
  have hb := En.may_bounds hm
  omega
/-- Whatever entry has these bytes, the reading has told it. -/
def Tells (b : List UInt8) (x : En) (r : Rd) : Prop := ∀ y : En, y.may → y.enc = b → y = x ∧ r.end_ = 0
theorem kind_eq {b : List UInt8} {k : Nat} {r1 : Rd} {y : En} (h1 : Rd.take ⟨b, 0, 0⟩ 1 = (k, r1)) (hm : y.may) (he : y.enc = b) : y.kind = (k : Int) ∧ r1 = ⟨b, 1, 0⟩ := by
  have := enc_kind hm he
  rw [h1] at this
  injection this with e1 e2
  have hb := En.may_bounds hm
  exact ⟨by omega, e2⟩
theorem pair_eq {α β : Type} {x : α × β} {a a' : α} {b b' : β} (h1 : x = (a, b)) (h2 : x = (a', b')) : a = a' ∧ b = b' := by
  rw [h1] at h2; injection h2 with e1 e2; exact ⟨e1, e2⟩
theorem dec_1 {b p1 p2 : List UInt8} {r1 r2 r3 : Rd} (h1 : Rd.take ⟨b, 0, 0⟩ 1 = (1, r1)) (h2 : r1.bytes 255 = (p1, r2)) (h3 : r2.bytes 4096 = (p2, r3)) : Tells b ⟨1, 0, 0, ⟨p1.toArray⟩, p2, false⟩ r3 := by
  intro y hm he
  obtain ⟨hk, rfl⟩ := kind_eq h1 hm he
  obtain ⟨k, s, n, key, v, d⟩ := y
  obtain rfl : k = 1 := hk
  rw [may_1] at hm
  obtain ⟨_, hks, rfl, rfl, rfl, hv⟩ := hm
  have e : [1] ++ intF key.size ++ key.data.toList ++ intF v.length ++ v = b := he
  have hkl := str_length key
  have d1 : b.drop 1 = intF key.data.toList.length ++ key.data.toList ++ (intF v.length ++ v) := by rw [hkl, ← e]; simp
  have q2 := rd_bytes (most := 255) d1 (by omega) (by omega)
  obtain ⟨rfl, rfl⟩ := pair_eq h2 q2
  have d2 : b.drop (1 + (intF key.data.toList.length ++ key.data.toList).length) = intF v.length ++ v ++ [] := by rw [drop_more d1, List.append_nil]
  have q3 := rd_bytes (most := 4096) d2 (by omega) (by omega)
  obtain ⟨rfl, rfl⟩ := pair_eq h3 q3
  refine ⟨by rw [ba_eta], rd_end (drop_more d2) ?_⟩
  rw [← e]; simp only [List.length_append, List.length_cons, List.length_nil, hkl]; omega
theorem dec_2 {b p1 : List UInt8} {r1 r2 : Rd} (h1 : Rd.take ⟨b, 0, 0⟩ 1 = (2, r1)) (h2 : r1.bytes 255 = (p1, r2)) : Tells b ⟨2, 0, 0, ⟨p1.toArray⟩, [], false⟩ r2 := by
  intro y hm he
  obtain ⟨hk, rfl⟩ := kind_eq h1 hm he
  obtain ⟨k, s, n, key, v, d⟩ := y
  obtain rfl : k = 2 := hk
  rw [may_2] at hm
  obtain ⟨_, hks, rfl, rfl, rfl, hv⟩ := hm
  obtain rfl := List.eq_nil_of_length_eq_zero hv
  have e : [2] ++ intF key.size ++ key.data.toList = b := he
  have hkl := str_length key
  have d1 : b.drop 1 = intF key.data.toList.length ++ key.data.toList ++ [] := by rw [hkl, ← e]; simp
  have q2 := rd_bytes (most := 255) d1 (by omega) (by omega)
  obtain ⟨rfl, rfl⟩ := pair_eq h2 q2
  refine ⟨by rw [ba_eta], rd_end (drop_more d1) ?_⟩
  rw [← e]; simp only [List.length_append, List.length_cons, List.length_nil, hkl]; omega
theorem dec_m {b : List UInt8} {k : Nat} {s n : Int} {r1 r2 r3 : Rd} (hk : k = 3 ∨ k = 4 ∨ k = 6) (h1 : Rd.take ⟨b, 0, 0⟩ 1 = (k, r1)) (h2 : r1.int 0 4611686018427387904 = (s, r2)) (h3 : r2.int 0 2147483647 = (n, r3)) : Tells b ⟨k, s, n, ⟨#[]⟩, [], false⟩ r3 := by
  intro y hm he
  obtain ⟨hky, rfl⟩ := kind_eq h1 hm he
  obtain ⟨k', s', n', key, v, d⟩ := y
  obtain rfl : k' = (k : Int) := hky
  rw [may_m (by omega)] at hm
  obtain ⟨hkz, _, _, _, _, rfl, hv⟩ := hm
  obtain rfl := List.eq_nil_of_length_eq_zero hv
  obtain rfl := str_empty hkz
  have e : [UInt8.ofNat k] ++ intF s' ++ intF n' = b := by
    rw [← he]
    unfold En.enc
    rw [if_neg (by show ¬ (k : Int) = 1; omega), if_neg (by show ¬ (k : Int) = 2; omega), if_neg (by show ¬ (k : Int) = 5; omega)]
    rfl
  have d1 : b.drop 1 = intF s' ++ intF n' := by rw [← e]; simp
  have q2 := rd_int (low := 0) (high := 4611686018427387904) d1 (by omega) (by omega) (by omega) (by omega)
  obtain ⟨rfl, rfl⟩ := pair_eq h2 q2
  have d2 : b.drop (1 + (intF s).length) = intF n' ++ [] := by rw [drop_more d1, List.append_nil]
  have q3 := rd_int (low := 0) (high := 2147483647) d2 (by omega) (by omega) (by omega) (by omega)
  obtain ⟨rfl, rfl⟩ := pair_eq h3 q3
  refine ⟨rfl, rd_end (drop_more d2) ?_⟩
  rw [← e]; simp only [List.length_append, List.length_cons, List.length_nil]; omega
theorem dec_5 {b p1 p2 : List UInt8} {s : Int} {k : Nat} {r1 r2 r3 r4 r5 : Rd} (h1 : Rd.take ⟨b, 0, 0⟩ 1 = (5, r1)) (h2 : r1.bytes 255 = (p1, r2)) (h3 : r2.int 0 4611686018427387904 = (s, r3)) (h4 : r3.take 1 = (k, r4)) (h5 : r4.bytes 4096 = (p2, r5)) :
    Tells b ⟨5, s, 0, ⟨p1.toArray⟩, p2, decide (k = 1)⟩ r5 := by
  intro y hm he
  obtain ⟨hky, rfl⟩ := kind_eq h1 hm he
  obtain ⟨k', s', n', key, v, d⟩ := y
  obtain rfl : k' = 5 := hky
  rw [may_5] at hm
  obtain ⟨_, hks, _, _, rfl, hv, _⟩ := hm
  have e : [5] ++ intF key.size ++ key.data.toList ++ intF s' ++ [if d then 1 else 0] ++ intF v.length ++ v = b := he
  have hkl := str_length key
  have d1 : b.drop 1 = intF key.data.toList.length ++ key.data.toList ++ (intF s' ++ ((if d then (1 : UInt8) else 0) :: (intF v.length ++ v))) := by rw [hkl, ← e]; simp
  have q2 := rd_bytes (most := 255) d1 (by omega) (by omega)
  obtain ⟨rfl, rfl⟩ := pair_eq h2 q2
  have d2 := drop_more d1
  have q3 := rd_int (low := 0) (high := 4611686018427387904) d2 (by omega) (by omega) (by omega) (by omega)
  obtain ⟨rfl, rfl⟩ := pair_eq h3 q3
  have d3 := drop_more d2
  have q4 := rd_take1 d3
  obtain ⟨rfl, rfl⟩ := pair_eq h4 q4
  have d4 : b.drop (1 + (intF key.data.toList.length ++ key.data.toList).length + (intF s).length + 1) = intF v.length ++ v ++ [] := by
    have := drop_more (x := [if d then (1 : UInt8) else 0]) (y := intF v.length ++ v) (k := 1 + (intF key.data.toList.length ++ key.data.toList).length + (intF s).length) (b := b) (by rw [d3]; rfl)
    rw [List.append_nil]; exact this
  have q5 := rd_bytes (most := 4096) d4 (by omega) (by omega)
  obtain ⟨rfl, rfl⟩ := pair_eq h5 q5
  refine ⟨by rw [ba_eta]; cases d <;> rfl, rd_end (drop_more d4) ?_⟩
  rw [← e]; simp only [List.length_append, List.length_cons, List.length_nil, hkl]; omega
/-- What Decode answers: the entry whose bytes these are, its value in new memory; or the error. -/
def DecPost (w : World) (b : List UInt8) (e : Ending) (w' : World) : Prop :=
  (∃ x : En, x.may ∧ x.enc = b ∧ ∃ A c, e = .returned (.tuple #[.agg (x.cells A c), .int .i64 0]) ∧ BOwns w' w.heap.size (.slice A x.value.length c) x.value ∧ Below w.heap.size w w') ∨
    ((¬ ∃ y : En, y.may ∧ y.enc = b) ∧ e = .returned (.tuple #[.agg (En.cells ⟨0, 0, 0, ⟨#[]⟩, [], false⟩ none 0), .int .i64 100]) ∧ Below w.heap.size w w')
theorem Tells.no {b : List UInt8} {x : En} {r : Rd} (h : Tells b x r) (hn : ¬ (x.may ∧ x.enc = b ∧ r.end_ = 0)) : ¬ ∃ y : En, y.may ∧ y.enc = b := by
  rintro ⟨y, hm, he⟩
  obtain ⟨rfl, h2⟩ := h y hm he
  exact hn ⟨hm, he, h2⟩
theorem enc_inj {x y : En} (hx : x.may) (hy : y.may) (h : x.enc = y.enc) : x = y := by
  have hb := En.may_bounds hy
  have ht := enc_kind hy rfl
  have hbx := En.may_bounds hx
  generalize hb' : y.enc = b at *
  rcases (show y.kind.toNat = 1 ∨ y.kind.toNat = 2 ∨ (y.kind.toNat = 3 ∨ y.kind.toNat = 4 ∨ y.kind.toNat = 6) ∨ y.kind.toNat = 5 from by omega) with hk | hk | hk | hk
  · rw [hk] at ht
    have := dec_1 ht (show Rd.bytes ⟨b, 1, 0⟩ 255 = (_, _) from rfl) (show Rd.bytes _ 4096 = (_, _) from rfl)
    exact (this x hx h).1.trans (this y hy hb').1.symm
  · rw [hk] at ht
    have := dec_2 ht (show Rd.bytes ⟨b, 1, 0⟩ 255 = (_, _) from rfl)
    exact (this x hx h).1.trans (this y hy hb').1.symm
  · have := dec_m hk ht (show Rd.int ⟨b, 1, 0⟩ 0 4611686018427387904 = (_, _) from rfl) (show Rd.int _ 0 2147483647 = (_, _) from rfl)
    exact (this x hx h).1.trans (this y hy hb').1.symm
  · rw [hk] at ht
    have := dec_5 ht (show Rd.bytes ⟨b, 1, 0⟩ 255 = (_, _) from rfl) (show Rd.int _ 0 4611686018427387904 = (_, _) from rfl) (show Rd.take _ 1 = (_, _) from rfl) (show Rd.bytes _ 4096 = (_, _) from rfl)
    exact (this x hx h).1.trans (this y hy hb').1.symm
end Go.Proofs.Ytnnladfndmdapaa
