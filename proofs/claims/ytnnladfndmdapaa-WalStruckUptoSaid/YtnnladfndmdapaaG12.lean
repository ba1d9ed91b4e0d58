/- Contracts and plain laws that this claim leans on, laid together: Rdl, PlainE, PlainW, Wal4D, Wal3, Ent9. -/
import Derived.Test.YtnnladfndmdapaaG03
import Derived.Test.YtnnladfndmdapaaG05
import Derived.Test.YtnnladfndmdapaaG09
import Derived.Test.YtnnladfndmdapaaG11
import Derived.Test.YtnnladfndmdapaaG07
import Derived.Test.YtnnladfndmdapaaG06
set_option linter.all false
set_option linter.unusedVariables false
set_option linter.unusedSimpArgs false
set_option linter.unnecessarySimpa false
/- The plain reader: bounds. No program in sight. -/
namespace Go.Proofs.Ytnnladfndmdapaa
open Go.RowKit

theorem Rd.take_lt (r : Rd) (n : Nat) : (r.take n).1 < 256 ^ n := by
  unfold Rd.take Rd.step
  by_cases hf : r.f = 0
  · rw [if_pos hf]
    cases h : takeF n (r.l.drop r.at_) with
    | error m => exact Nat.pow_pos (by decide)
    | ok x => exact (takeF_lt h).1
  · rw [if_neg hf]; exact Nat.pow_pos (by decide)

theorem Rd.step_l {α : Type} (r : Rd) (n : α) (x : Except Int (α × Nat)) : (r.step n x).2.l = r.l := by
  unfold Rd.step
  split
  · split <;> rfl
  · rfl
theorem Rd.bytes_len (r : Rd) (m : Int) : (r.bytes m).1.length ≤ r.l.length := by
  unfold Rd.bytes Rd.step
  split
  · cases hb : blockF m (r.l.drop r.at_) with
    | error e => exact Nat.zero_le _
    | ok x =>
      have := (blockF_len hb).1
      rw [List.length_drop] at this
      show x.1.length ≤ _
      omega
  · exact Nat.zero_le _
end Go.Proofs.Ytnnladfndmdapaa
/- Reading an entry off its bytes: there and back, in plain words. -/
namespace Go.Proofs.Ytnnladfndmdapaa
open Go.RowKit

theorem blockF_most {p post : List UInt8} {most : Int} (hp : (p.length : Int) ≤ most) (hm : p.length ≤ 9223372036854775807) : blockF most (intF p.length ++ p ++ post) = .ok (p, (intF p.length ++ p).length) := by
  unfold blockF
  rw [if_neg (by omega), List.append_assoc, numberF_there (by omega) (by omega) (by omega) (by omega)]
  simp only [List.length_append]
  rw [if_neg (by omega), List.drop_left, Int.toNat_natCast, List.take_left]
theorem rd_take1 {b : List UInt8} {x : UInt8} {r : List UInt8} {at_ : Nat} (h : b.drop at_ = x :: r) : Rd.take ⟨b, at_, 0⟩ 1 = (x.toNat, ⟨b, at_ + 1, 0⟩) := by
  simp only [Rd.take, Rd.step, h, takeF, if_true]
  rw [if_neg (by simp)]
  simp [beVal]
theorem rd_bytes {b p post : List UInt8} {at_ : Nat} {most : Int} (h : b.drop at_ = intF p.length ++ p ++ post) (hp : (p.length : Int) ≤ most) (hm : p.length ≤ 9223372036854775807) : Rd.bytes ⟨b, at_, 0⟩ most = (p, ⟨b, at_ + (intF p.length ++ p).length, 0⟩) := by
  simp only [Rd.bytes, Rd.step, h, blockF_most hp hm, if_true]
theorem rd_int {b post : List UInt8} {at_ : Nat} {low high n : Int} (h : b.drop at_ = intF n ++ post) (h0 : -9223372036854775808 ≤ n) (h1 : n ≤ 9223372036854775807) (hl : low ≤ n) (hh : n ≤ high) : Rd.int ⟨b, at_, 0⟩ low high = (n, ⟨b, at_ + (intF n).length, 0⟩) := by
  simp only [Rd.int, Rd.step, h, numberF_there h0 h1 hl hh, if_true]
theorem drop_more {b x y : List UInt8} {k : Nat} (h : b.drop k = x ++ y) : b.drop (k + x.length) = y := by
  rw [← List.drop_drop, h, List.drop_left]
theorem rd_end {b : List UInt8} {k : Nat} (h : b.drop k = []) (hk : k ≤ b.length) : Rd.end_ ⟨b, k, 0⟩ = 0 := by
  have : b.length ≤ k := by have := congrArg List.length h; rw [List.length_drop, List.length_nil] at this; omega
  unfold Rd.end_ Rd.left
  simp only [if_true]
  rw [if_neg (by omega)]
theorem ba_eta (s : ByteArray) : (⟨s.data.toList.toArray⟩ : ByteArray) = s := by cases s; simp
theorem enc_head {y : En} (hm : y.may) : ∃ r, y.enc = UInt8.ofNat y.kind.toNat :: r := by
  unfold En.enc
  by_cases h1 : y.kind = 1
  · rw [if_pos h1, h1]; exact ⟨_, rfl⟩
  rw [if_neg h1]
  by_cases h2 : y.kind = 2
  · rw [if_pos h2, h2]; exact ⟨_, rfl⟩
  rw [if_neg h2]
  by_cases h5 : y.kind = 5
  · rw [if_pos h5, h5]; exact ⟨_, rfl⟩
  rw [if_neg h5]; exact ⟨_, rfl⟩
theorem enc_kind {y : En} {b : List UInt8} (hm : y.may) (he : y.enc = b) : Rd.take ⟨b, 0, 0⟩ 1 = (y.kind.toNat, ⟨b, 1, 0⟩) := by
  obtain ⟨r, hr⟩ := enc_head hm
  have hb := En.may_bounds hm
  have := rd_take1 (b := b) (at_ := 0) (x := UInt8.ofNat y.kind.toNat) (r := r) (by rw [← he]; exact hr)
  rw [this, UInt8.toNat_ofNat_of_lt' (by show _ < 256; omega)]
theorem dec_x {b : List UInt8} {k : Nat} {r1 : Rd} (h1 : Rd.take ⟨b, 0, 0⟩ 1 = (k, r1)) (hk : ¬ (1 ≤ k ∧ k ≤ 6)) : ¬ ∃ y : En, y.may ∧ y.enc = b := by
  rintro ⟨y, hm, he⟩
  have := enc_kind hm he
  rw [h1] at this
  injection this with e _
  have hb := En.may_bounds hm
  omega
/-- Whatever entry has these bytes, the reading has told it. -/
def Tells (b : List UInt8) (x : En) (r : Rd) : Prop := ∀ y : En, y.may → y.enc = b → y = x ∧ r.end_ = 0
theorem kind_eq {b : List UInt8} {k : Nat} {r1 : Rd} {y : En} (h1 : Rd.take ⟨b, 0, 0⟩ 1 = (k, r1)) (hm : y.may) (he : y.enc = b) : y.kind = (k : Int) ∧ r1 = ⟨b, 1, 0⟩ := by
  have := enc_kind hm he
  rw [h1] at this
  injection this with e1 e2
  have hb := En.may_bounds hm
  exact ⟨by omega, e2⟩
theorem pair_eq {α β : Type} {x : α × β} {a a' : α} {b b' : β} (h1 : x = (a, b)) (h2 : x = (a', b')) : a = a' ∧ b = b' := by
  rw [h1] at h2; injection h2 with e1 e2; exact ⟨e1, e2⟩
theorem dec_1 {b p1 p2 : List UInt8} {r1 r2 r3 : Rd} (h1 : Rd.take ⟨b, 0, 0⟩ 1 = (1, r1)) (h2 : r1.bytes 255 = (p1, r2)) (h3 : r2.bytes 4096 = (p2, r3)) : Tells b ⟨1, 0, 0, ⟨p1.toArray⟩, p2, false⟩ r3 := by
  intro y hm he
  obtain ⟨hk, rfl⟩ := kind_eq h1 hm he
  obtain ⟨k, s, n, key, v, d⟩ := y
  obtain rfl : k = 1 := hk
  rw [may_1] at hm
  obtain ⟨_, hks, rfl, rfl, rfl, hv⟩ := hm
  have e : [1] ++ intF key.size ++ key.data.toList ++ intF v.length ++ v = b := he
  have hkl := str_length key
  have d1 : b.drop 1 = intF key.data.toList.length ++ key.data.toList ++ (intF v.length ++ v) := by rw [hkl, ← e]; simp
  have q2 := rd_bytes (most := 255) d1 (by omega) (by omega)
  obtain ⟨rfl, rfl⟩ := pair_eq h2 q2
  have d2 : b.drop (1 + (intF key.data.toList.length ++ key.data.toList).length) = intF v.length ++ v ++ [] := by rw [drop_more d1, List.append_nil]
  have q3 := rd_bytes (most := 4096) d2 (by omega) (by omega)
  obtain ⟨rfl, rfl⟩ := pair_eq h3 q3
  refine ⟨by rw [ba_eta], rd_end (drop_more d2) ?_⟩
  rw [← e]; simp only [List.length_append, List.length_cons, List.length_nil, hkl]; omega
theorem dec_2 {b p1 : List UInt8} {r1 r2 : Rd} (h1 : Rd.take ⟨b, 0, 0⟩ 1 = (2, r1)) (h2 : r1.bytes 255 = (p1, r2)) : Tells b ⟨2, 0, 0, ⟨p1.toArray⟩, [], false⟩ r2 := by
  intro y hm he
  obtain ⟨hk, rfl⟩ := kind_eq h1 hm he
  obtain ⟨k, s, n, key, v, d⟩ := y
  obtain rfl : k = 2 := hk
  rw [may_2] at hm
  obtain ⟨_, hks, rfl, rfl, rfl, hv⟩ := hm
  obtain rfl := List.eq_nil_of_length_eq_zero hv
  have e : [2] ++ intF key.size ++ key.data.toList = b := he
  have hkl := str_length key
  have d1 : b.drop 1 = intF key.data.toList.length ++ key.data.toList ++ [] := by rw [hkl, ← e]; simp
  have q2 := rd_bytes (most := 255) d1 (by omega) (by omega)
  obtain ⟨rfl, rfl⟩ := pair_eq h2 q2
  refine ⟨by rw [ba_eta], rd_end (drop_more d1) ?_⟩
  rw [← e]; simp only [List.length_append, List.length_cons, List.length_nil, hkl]; omega
theorem dec_m {b : List UInt8} {k : Nat} {s n : Int} {r1 r2 r3 : Rd} (hk : k = 3 ∨ k = 4 ∨ k = 6) (h1 : Rd.take ⟨b, 0, 0⟩ 1 = (k, r1)) (h2 : r1.int 0 4611686018427387904 = (s, r2)) (h3 : r2.int 0 2147483647 = (n, r3)) : Tells b ⟨k, s, n, ⟨#[]⟩, [], false⟩ r3 := by
  intro y hm he
  obtain ⟨hky, rfl⟩ := kind_eq h1 hm he
  obtain ⟨k', s', n', key, v, d⟩ := y
  obtain rfl : k' = (k : Int) := hky
  rw [may_m (by omega)] at hm
  obtain ⟨hkz, _, _, _, _, rfl, hv⟩ := hm
  obtain rfl := List.eq_nil_of_length_eq_zero hv
  obtain rfl := str_empty hkz
  have e : [UInt8.ofNat k] ++ intF s' ++ intF n' = b := by
    rw [← he]
    unfold En.enc
    rw [if_neg (by show ¬ (k : Int) = 1; omega), if_neg (by show ¬ (k : Int) = 2; omega), if_neg (by show ¬ (k : Int) = 5; omega)]
    rfl
  have d1 : b.drop 1 = intF s' ++ intF n' := by rw [← e]; simp
  have q2 := rd_int (low := 0) (high := 4611686018427387904) d1 (by omega) (by omega) (by omega) (by omega)
  obtain ⟨rfl, rfl⟩ := pair_eq h2 q2
  have d2 : b.drop (1 + (intF s).length) = intF n' ++ [] := by rw [drop_more d1, List.append_nil]
  have q3 := rd_int (low := 0) (high := 2147483647) d2 (by omega) (by omega) (by omega) (by omega)
  obtain ⟨rfl, rfl⟩ := pair_eq h3 q3
  refine ⟨rfl, rd_end (drop_more d2) ?_⟩
  rw [← e]; simp only [List.length_append, List.length_cons, List.length_nil]; omega
theorem dec_5 {b p1 p2 : List UInt8} {s : Int} {k : Nat} {r1 r2 r3 r4 r5 : Rd} (h1 : Rd.take ⟨b, 0, 0⟩ 1 = (5, r1)) (h2 : r1.bytes 255 = (p1, r2)) (h3 : r2.int 0 4611686018427387904 = (s, r3)) (h4 : r3.take 1 = (k, r4)) (h5 : r4.bytes 4096 = (p2, r5)) :
    Tells b ⟨5, s, 0, ⟨p1.toArray⟩, p2, decide (k = 1)⟩ r5 := by
  intro y hm he
  obtain ⟨hky, rfl⟩ := kind_eq h1 hm he
  obtain ⟨k', s', n', key, v, d⟩ := y
  obtain rfl : k' = 5 := hky
  rw [may_5] at hm
  obtain ⟨_, hks, _, _, rfl, hv, _⟩ := hm
  have e : [5] ++ intF key.size ++ key.data.toList ++ intF s' ++ [if d then 1 else 0] ++ intF v.length ++ v = b := he
  have hkl := str_length key
  have d1 : b.drop 1 = intF key.data.toList.length ++ key.data.toList ++ (intF s' ++ ((if d then (1 : UInt8) else 0) :: (intF v.length ++ v))) := by rw [hkl, ← e]; simp
  have q2 := rd_bytes (most := 255) d1 (by omega) (by omega)
  obtain ⟨rfl, rfl⟩ := pair_eq h2 q2
  have d2 := drop_more d1
  have q3 := rd_int (low := 0) (high := 4611686018427387904) d2 (by omega) (by omega) (by omega) (by omega)
  obtain ⟨rfl, rfl⟩ := pair_eq h3 q3
  have d3 := drop_more d2
  have q4 := rd_take1 d3
  obtain ⟨rfl, rfl⟩ := pair_eq h4 q4
  have d4 : b.drop (1 + (intF key.data.toList.length ++ key.data.toList).length + (intF s).length + 1) = intF v.length ++ v ++ [] := by
    have := drop_more (x := [if d then (1 : UInt8) else 0]) (y := intF v.length ++ v) (k := 1 + (intF key.data.toList.length ++ key.data.toList).length + (intF s).length) (b := b) (by rw [d3]; rfl)
    rw [List.append_nil]; exact this
  have q5 := rd_bytes (most := 4096) d4 (by omega) (by omega)
  obtain ⟨rfl, rfl⟩ := pair_eq h5 q5
  refine ⟨by rw [ba_eta]; cases d <;> rfl, rd_end (drop_more d4) ?_⟩
  rw [← e]; simp only [List.length_append, List.length_cons, List.length_nil, hkl]; omega
/-- What Decode answers: the entry whose bytes these are, its value in new memory; or the error. -/
def DecPost (w : World) (b : List UInt8) (e : Ending) (w' : World) : Prop :=
  (∃ x : En, x.may ∧ x.enc = b ∧ ∃ A c, e = .returned (.tuple #[.agg (x.cells A c), .int .i64 0]) ∧ BOwns w' w.heap.size (.slice A x.value.length c) x.value ∧ Below w.heap.size w w') ∨
    ((¬ ∃ y : En, y.may ∧ y.enc = b) ∧ e = .returned (.tuple #[.agg (En.cells ⟨0, 0, 0, ⟨#[]⟩, [], false⟩ none 0), .int .i64 100]) ∧ Below w.heap.size w w')
theorem Tells.no {b : List UInt8} {x : En} {r : Rd} (h : Tells b x r) (hn : ¬ (x.may ∧ x.enc = b ∧ r.end_ = 0)) : ¬ ∃ y : En, y.may ∧ y.enc = b := by
  rintro ⟨y, hm, he⟩
  obtain ⟨rfl, h2⟩ := h y hm he
  exact hn ⟨hm, he, h2⟩
theorem enc_inj {x y : En} (hx : x.may) (hy : y.may) (h : x.enc = y.enc) : x = y := by
  have hb := En.may_bounds hy
  have ht := enc_kind hy rfl
  have hbx := En.may_bounds hx
  generalize hb' : y.enc = b at *
  rcases (show y.kind.toNat = 1 ∨ y.kind.toNat = 2 ∨ (y.kind.toNat = 3 ∨ y.kind.toNat = 4 ∨ y.kind.toNat = 6) ∨ y.kind.toNat = 5 from by omega) with hk | hk | hk | hk
  · rw [hk] at ht
    have := dec_1 ht (show Rd.bytes ⟨b, 1, 0⟩ 255 = (_, _) from rfl) (show Rd.bytes _ 4096 = (_, _) from rfl)
    exact (this x hx h).1.trans (this y hy hb').1.symm
  · rw [hk] at ht
    have := dec_2 ht (show Rd.bytes ⟨b, 1, 0⟩ 255 = (_, _) from rfl)
    exact (this x hx h).1.trans (this y hy hb').1.symm
  · have := dec_m hk ht (show Rd.int ⟨b, 1, 0⟩ 0 4611686018427387904 = (_, _) from rfl) (show Rd.int _ 0 2147483647 = (_, _) from rfl)
    exact (this x hx h).1.trans (this y hy hb').1.symm
  · rw [hk] at ht
    have := dec_5 ht (show Rd.bytes ⟨b, 1, 0⟩ 255 = (_, _) from rfl) (show Rd.int _ 0 4611686018427387904 = (_, _) from rfl) (show Rd.take _ 1 = (_, _) from rfl) (show Rd.bytes _ 4096 = (_, _) from rfl)
    exact (this x hx h).1.trans (this y hy hb').1.symm
end Go.Proofs.Ytnnladfndmdapaa
/- What a log tells of bytes: the plain law. -/
namespace Go.Proofs.Ytnnladfndmdapaa
open Go.RowKit

theorem beVal_of (k v : Nat) (h : v < 256 ^ k) : beVal (beN k v) = v := by
  have := beVal_beN k v h 0
  unfold beVal
  simpa using this
theorem beN_len4 (v : Nat) : (beN 4 v).length = 4 := by simp [beN]
theorem readF_frame {p z : List UInt8} (hp : p.length ≤ 65536) : readF (frameF p ++ z) = .ok (p, p.length + 9) := by
  have hl := frameF_len p
  have hh := headF_len p
  have e : frameF p ++ z = 197 :: (beN 4 p.length ++ (p ++ (beN 4 (sumF (headF p)) ++ z))) := by unfold frameF headF; simp
  have hn : numF (frameF p ++ z) = p.length := by
    unfold numF
    rw [e, List.drop_succ_cons, List.drop_zero, List.take_left' (beN_len4 _)]
    exact beVal_of 4 _ (by omega)
  have h5 : (frameF p ++ z).take (5 + p.length) = headF p := by unfold frameF; rw [List.append_assoc, List.take_left' (by omega)]
  have h6 : (frameF p ++ z).drop (5 + p.length) = beN 4 (sumF (headF p)) ++ z := by unfold frameF; rw [List.append_assoc, List.drop_left' (by omega)]
  have h7 : (frameF p ++ z).drop 5 = p ++ (beN 4 (sumF (headF p)) ++ z) := by
    have : frameF p ++ z = ([197] ++ beN 4 p.length) ++ (p ++ (beN 4 (sumF (headF p)) ++ z)) := by unfold frameF headF; simp
    rw [this, List.drop_left' (by rw [List.length_append, beN_len4]; rfl)]
  unfold readF
  rw [hn, h5, h6, h7, List.take_left' (beN_len4 _), List.take_left' rfl, beVal_of 4 _ (by have := sumF_lt (headF p); omega)]
  rw [if_neg (by rw [List.length_append]; omega), if_neg (by rw [e]; simp), if_neg (by rw [List.length_append]; omega), if_neg (by omega), if_neg (by rw [List.length_append]; omega), if_neg (by simp)]
  rw [show 5 + p.length + 4 = p.length + 9 from by omega]
open Classical in
/-- The entries told of frames, each with its end: up to the first that is no entry's. -/
noncomputable def tellL : List (Nat × List UInt8) → List (En × Nat)
  | [] => []
  | (t, p) :: r => if h : ∃ y : En, y.may ∧ y.enc = p then (h.choose, t) :: tellL r else []
theorem tellL_ok {t : Nat} {x : En} (hm : x.may) (r : List (Nat × List UInt8)) : tellL ((t, x.enc) :: r) = (x, t) :: tellL r := by
  have h : ∃ y : En, y.may ∧ y.enc = x.enc := ⟨x, hm, rfl⟩
  rw [tellL, dif_pos h, enc_inj h.choose_spec.1 hm h.choose_spec.2]
theorem tellL_no {t : Nat} {p : List UInt8} (h : ¬ ∃ y : En, y.may ∧ y.enc = p) (r : List (Nat × List UInt8)) : tellL ((t, p) :: r) = [] := by rw [tellL, dif_neg h]
/-- What a log tells of the bytes of its area. -/
noncomputable def tellF (b : List UInt8) : List (En × Nat) := tellL (allF b (b.length + 1) 0)
/-- Entries laid one behind the other, each with its end. -/
def endsF : Nat → List En → List (En × Nat)
  | _, [] => []
  | t, e :: r => (e, t + (e.enc.length + 9)) :: endsF (t + (e.enc.length + 9)) r
theorem allF_step {b z p : List UInt8} {t k : Nat} (hb : b.drop t = frameF p ++ z) (hp : p.length ≤ 65536) : allF b (k + 1) t = (t + (p.length + 9), p) :: allF b k (t + (p.length + 9)) := by
  rw [allF, hb, readF_frame hp]
theorem tell_frames : ∀ (es : List En), (∀ e ∈ es, e.may) → ∀ (b z : List UInt8) (t k : Nat), b.drop t = framesF es ++ z →
    tellL (allF b (k + es.length) t) = endsF t es ++ tellL (allF b k (t + (framesF es).length)) := by
  intro es
  induction es with
  | nil => intro _ b z t k _; simp [endsF, framesF]
  | cons e r ih =>
    intro hm b z t k hb
    have he : framesF (e :: r) = frameF e.enc ++ framesF r := rfl
    have hle := En.enc_len (hm e (List.mem_cons_self ..))
    rw [he, List.append_assoc] at hb
    rw [show k + (e :: r).length = (k + r.length) + 1 from by rw [List.length_cons]; omega, allF_step hb (by omega), tellL_ok (hm e (List.mem_cons_self ..)), endsF]
    have hb2 : b.drop (t + (e.enc.length + 9)) = framesF r ++ z := by
      rw [← List.drop_drop, hb, ← frameF_len, List.drop_left' rfl]
    rw [ih (fun x hx => hm x (List.mem_cons_of_mem _ hx)) b z _ k hb2, he, List.length_append, frameF_len, Nat.add_assoc]
    rfl
end Go.Proofs.Ytnnladfndmdapaa
/- Log.Entries: what is told so far. -/
namespace Go.Proofs.Ytnnladfndmdapaa
open Go.RowKit

theorem tellL_stop {t : Nat} {p : List UInt8} (h : ¬ ∃ y : En, y.may ∧ y.enc = p) (r : List (Nat × List UInt8)) : ∀ (A : List (Nat × List UInt8)), (tellL A).length = A.length → tellL (A ++ (t, p) :: r) = tellL A := by
  intro A
  induction A with
  | nil => intro _; rw [List.nil_append, tellL_no h]; rfl
  | cons a A ih =>
    intro hl
    obtain ⟨s, q⟩ := a
    by_cases hq : ∃ y : En, y.may ∧ y.enc = q
    · obtain ⟨y, hm, rfl⟩ := hq
      rw [tellL_ok hm] at hl ⊢
      rw [List.cons_append, tellL_ok hm, ih (by simpa using hl)]
    · rw [tellL_no hq] at hl; simp at hl
theorem tellL_snoc {t : Nat} {x : En} (hm : x.may) : ∀ (A : List (Nat × List UInt8)), (tellL A).length = A.length → tellL (A ++ [(t, x.enc)]) = tellL A ++ [(x, t)] := by
  intro A
  induction A with
  | nil => intro _; rw [List.nil_append, tellL_ok hm]; rfl
  | cons a A ih =>
    intro hl
    obtain ⟨s, q⟩ := a
    by_cases hq : ∃ y : En, y.may ∧ y.enc = q
    · obtain ⟨y, hm', rfl⟩ := hq
      rw [tellL_ok hm'] at hl ⊢
      rw [List.cons_append, tellL_ok hm', ih (by simpa using hl), List.cons_append]
    · rw [tellL_no hq] at hl; simp at hl
/-- An entry that is told: where its value lies. -/
structure Told where
  x : En
  A : Option Addr
  c : Nat
def toldCells (ts : List Told) : List Value := ts.flatMap fun t => (t.x.cells t.A t.c).toList
def toldRows (ts : List Told) : List Item := ts.map fun t => Item.row (.slice t.A t.x.value.length t.c) t.x.value
def endsV (base : Int) (es : List Nat) : List Value := es.map fun e : Nat => Value.int .i64 (base + (e : Int))
def entItems (g9 g10 g4 : Nat) (bs : Int) (v9 v10 : Value) (ts : List Told) (es : List Nat) : List Item :=
  Item.blk g9 54 #[v9] :: Item.blk g10 64 #[v10] :: Item.rowT 25 6 v9 ts.length (toldCells ts) :: Item.rowT 3 1 v10 ts.length (endsV bs es) :: Item.blk g4 3 #[.int .i64 bs] :: toldRows ts
theorem solid_ents (g9 g10 g4 : Nat) (bs : Int) (v9 v10 : Value) (ts : List Told) (es : List Nat) : (Item.all (entItems g9 g10 g4 bs v9 v10 ts es)).solid := by
  refine solid_all fun i hi => ?_
  unfold entItems toldRows at hi
  simp only [List.mem_cons, List.mem_map] at hi
  rcases hi with rfl | rfl | rfl | rfl | rfl | ⟨t, _, rfl⟩
  · exact solid_blk
  · exact solid_blk
  · exact solid_rowT
  · exact solid_rowT
  · exact solid_blk
  · exact solid_row
/-- What is told after some frames. -/
def EntI (x0 : Item) (w0 : World) (g9 g10 g4 : Nat) (bs : Int) (xs : List Got) (W : World) : Prop :=
  ∃ (ts : List Told) (v9 v10 : Value), tellL (xs.map Got.key) = (ts.map Told.x).zip (xs.map Got.at_) ∧ ts.length = xs.length ∧ Turn x0 w0 (Item.all (entItems g9 g10 g4 bs v9 v10 ts (xs.map Got.at_))) W
theorem entI_own {x0 : Item} {w0 : World} {g9 g10 g4 B : Nat} {bs : Int} (hB : w0.heap.size ≤ B) : Go.OwnFrom B (EntI x0 w0 g9 g10 g4 bs) := by
  rintro xs W W' row ⟨ts, v9, v10, h1, h2, hT⟩ hg hr
  exact ⟨ts, v9, v10, h1, h2, hT.kept (solid_ents _ _ _ _ _ _ _ _) hg fun r e => ⟨Nat.le_trans hB (hr r e).1, (hr r e).2⟩⟩
/-- A function that holds a range over a function returns. -/
theorem marks_ret {F : Fence} {n : Nat} {P : Program} {fn : Func} {R : Ending → World → Prop} {a : Act} {w : World} {v : Value} {D : Nat} (hd : a.defers = [{ target := .collected D, args := #[] }]) (hD : w.heap[D]? = some (.deferred (some [])))
    (hr : ∀ w', (results fn a.tmps).run P w' = .ok v w') (hR : R (.returned v) (w.putObj D (.deferred none))) : bodyPostM F n P fn R .ret a w := by
  show LeavesInM F n P fn a.tmps R a.defers .returning w
  rw [hd]
  exact ⟨by simp, .inl ⟨_, _, rfl, run_takeDeferred hD, v, hr _, hR⟩⟩
theorem tellL_len {ts : List En} {A : List (Nat × List UInt8)} {es : List Nat} (h : tellL A = ts.zip es) (h1 : ts.length = A.length) (h2 : es.length = A.length) : (tellL A).length = A.length := by
  rw [h, List.length_zip]; omega
theorem toldCells_snoc (ts : List Told) (t : Told) : toldCells (ts ++ [t]) = toldCells ts ++ (t.x.cells t.A t.c).toList := by simp [toldCells]
theorem endsV_snoc (b : Int) (es : List Nat) (e : Nat) : endsV b (es ++ [e]) = endsV b es ++ [.int .i64 (b + (e : Int))] := by simp [endsV]
theorem toldRows_snoc (ts : List Told) (t : Told) : toldRows (ts ++ [t]) = toldRows ts ++ [Item.row (.slice t.A t.x.value.length t.c) t.x.value] := by simp [toldRows]
theorem ent_round {X0 : Item} {w0 W w' : World} {g9 g10 g4 g13 m₀ : Nat} {bs : Int} {pre : List Got} {ts : List Told} {v9 v10 : Value} {A9 A10 : Option Addr} {c9 c10 : Nat} {x : Got} {t : Told} (htl : tellL (pre.map Got.key) = (ts.map Told.x).zip (pre.map Got.at_)) (hlen : ts.length = pre.length)
    (hT : Turn X0 w0 (Item.all (entItems g9 g10 g4 bs v9 v10 ts (pre.map Got.at_))) W) (hm : t.x.may) (he : t.x.enc = x.p) (hX : ∀ k, X0.own k → k < m₀)
    (h4 : Turn (Item.all (entItems g9 g10 g4 bs v9 v10 ts (pre.map Got.at_))) W (Item.all (Item.blk g9 54 #[.slice A9 (ts.length + 1) c9] :: Item.blk g10 64 #[.slice A10 (ts.length + 1) c10] ::
      Item.rowT 25 6 (.slice A9 (ts.length + 1) c9) (ts.length + 1) (toldCells ts ++ (t.x.cells t.A t.c).toList) :: Item.rowT 3 1 (.slice A10 (ts.length + 1) c10) (ts.length + 1) (endsV bs (pre.map Got.at_) ++ [.int .i64 (bs + (x.at_ : Int))]) ::
      Item.blk g13 25 (t.x.cells t.A t.c) :: Item.row (.slice t.A t.x.value.length t.c) t.x.value :: Item.blk g4 3 #[.int .i64 bs] :: toldRows ts)) w') :
    KeepsFrom w0.heap.size W w' ∧ Mid m₀ w0.heap.size W w' ∧ EntI X0 w0 g9 g10 g4 bs (pre ++ [x]) w' := by
  refine ⟨h4.keepsFrom hT.p (solid_ents _ _ _ _ _ _ _ _), ⟨h4.k.size, fun k h1 h2 => h4.k.block k (Nat.lt_of_lt_of_le h2 hT.k.size) fun ho => ?_⟩, ts ++ [t], .slice A9 (ts.length + 1) c9, .slice A10 (ts.length + 1) c10, ?_, by simp [hlen], ?_⟩
  · rcases hT.o k ho with h | h
    · have := hX k h; omega
    · omega
  · rw [List.map_append, List.map_cons, List.map_nil, List.map_append, List.map_append, List.map_cons, List.map_nil, List.map_cons, List.map_nil]
    rw [List.zip_append (by simp [hlen]), ← htl]
    show tellL (_ ++ [(x.at_, x.p)]) = _
    rw [← he, tellL_snoc hm _ (tellL_len htl (by simp [hlen]) (by simp))]
    rfl
  · have h5 := h4.sub (M := Item.blk g9 54 #[.slice A9 (ts.length + 1) c9] :: Item.blk g10 64 #[.slice A10 (ts.length + 1) c10] ::
      Item.rowT 25 6 (.slice A9 (ts.length + 1) c9) (ts.length + 1) (toldCells ts ++ (t.x.cells t.A t.c).toList) :: Item.rowT 3 1 (.slice A10 (ts.length + 1) c10) (ts.length + 1) (endsV bs (pre.map Got.at_) ++ [.int .i64 (bs + (x.at_ : Int))]) ::
      Item.row (.slice t.A t.x.value.length t.c) t.x.value :: Item.blk g4 3 #[.int .i64 bs] :: toldRows ts) (by
      refine List.Sublist.cons_cons _ (List.Sublist.cons_cons _ (List.Sublist.cons_cons _ (List.Sublist.cons_cons _ (List.Sublist.cons _ (List.Sublist.refl _))))))
    have h6 := h5.permR (((((List.perm_append_singleton (Item.row (.slice t.A t.x.value.length t.c) t.x.value) (Item.blk g4 3 #[.int .i64 bs] :: toldRows ts)).symm.cons _).cons _).cons _).cons _)
    unfold entItems
    rw [List.map_append, List.map_cons, List.map_nil, endsV_snoc, toldCells_snoc, toldRows_snoc, List.length_append]
    exact hT.trans h6
theorem ents_end {X0 : Item} {w w0 W W' : World} {g9 g10 g4 D : Nat} {bs : Int} {ts : List Told} {es : List Nat} {v9 v10 : Value} (hT : Turn X0 w0 (Item.all (entItems g9 g10 g4 bs v9 v10 ts es)) W) (h0 : Turn (Item.all []) w X0 w0) (hW : W'.heap = W.heap) (hos : W'.os = W.os) (htp : W'.output = W.output) (hta : W'.tape = W.tape)
    (hD : w0.heap.size ≤ D) (hDD : W.heap[D]? = some (.deferred (some []))) :
    Turn (Item.all []) w (Item.all (Item.rowT 25 6 v9 ts.length (toldCells ts) :: Item.rowT 3 1 v10 ts.length (endsV bs es) :: toldRows ts)) (W'.putObj D (.deferred none)) := by
  have h1 := (h0.trans hT).go (w'' := W') ⟨hos, hta, htp, by rw [hW]; exact Nat.le_refl _, fun k hk => by rw [hW]⟩
  have h2 := h1.kept (solid_ents _ _ _ _ _ _ _ _) (grownBy_putObj' W' D (.deferred none)) fun r e => by
    cases e
    exact ⟨Nat.le_trans h0.k.size hD, _, by rw [hW]; exact hDD, rfl⟩
  exact h2.sub (List.Sublist.cons _ (List.Sublist.cons _ (List.Sublist.cons_cons _ (List.Sublist.cons_cons _ (List.Sublist.cons _ (List.Sublist.refl _))))))
def gotFrame (a : Act) (x : Got) : Act := { tmps := (((a.tmps.setIfInBounds 41 (.int .i64 x.at_)).setIfInBounds 42 (.slice x.A x.p.length x.c)).setIfInBounds 11 (.int .i64 x.at_)).setIfInBounds 12 (.slice x.A x.p.length x.c), defers := [] }
theorem range_got {F : Fence} {n : Nat} {P : Program} {g : Operand} {assign body : Code} {Q : Exit → Act → World → Prop} {a : Act} {w : World} (hro : F.round = none) (h1 : 1 ≤ n) {gf : Nat} {lb : Array Value} (hg : a.eval g = .func (.func gf) #[] lb) (hF : F.fn gf) (eg : ∀ args w, (callFunc gf args).run P w = .ok (.enter gf args) w)
    {Kp : World → World → Prop} {S Sp : List Got → Prop} {b : List UInt8} (hseq : SeqRd F (n - 1) P gf lb Got.encs Kp (Got.rdP b) S Sp w)
    (hKt : ∀ {A B C : World}, Kp A B → Kp B C → Kp A C) (hKb : ∀ (W : World) (l : Nat) (o o' : Obj), w.heap.size ≤ l → W.heap[l]? = some o → o.isCells = false → o.isWalk = false → Kp W (W.putObj l o'))
    (I : List Got → World → Prop) (Ix : Code → List Got → World → Prop) (hI : Go.OwnFrom w.heap.size I) (hIx : ∀ c, Go.OwnFrom w.heap.size (Ix c)) (h0 : I [] w)
    (hassign : ∀ (l : Nat) (x : Got) (W : World) (K : Act → World → Prop), K (gotFrame a x) W →
      assign.wpIn (F.inRound l) (n - 1 - 1) P (Exit.then K (fun _ _ _ => False)) { tmps := (a.tmps.setIfInBounds 41 (.int .i64 x.at_)).setIfInBounds 42 (.slice x.A x.p.length x.c), defers := [] } W)
    (hbody : ∀ (l : Nat) (pre : List Got) (x : Got) (W : World), I pre W → Got.rdP b pre x W → body.wpIn (F.inRound l) (n - 1 - 1) P (ownPostG w.heap.size Kp I Ix (pre ++ [x]) W) (gotFrame a x) W)
    (hdone : ∀ (D : Nat) (xs : List Got) (W : World), w.heap.size ≤ D → S xs → I xs W → W.heap[D]? = some (.deferred (some [])) → Q .normal { a with defers := { target := .collected D, args := #[] } :: a.defers } W)
    (hstop : ∀ (D : Nat) (c : Code) (pre : List Got) (W : World), w.heap.size ≤ D → Sp pre → Ix c pre W → W.heap[D]? = some (.deferred (some [])) → c.wpIn F n P Q { a with defers := { target := .collected D, args := #[] } :: a.defers } W) :
    (Code.rangeFunc g #[41, 42] assign body).wpIn F n P Q a w :=
  range_rd hro h1 hg hF eg hseq hKt hKb (Got.rdP_own _ _) (Below.refl _ _) (fun _ => rfl) I Ix hI hIx h0 (gotFrame a) (fun l x W K hK => by have h := hassign l x W K hK; simpa [Got.encs] using h) hbody hdone hstop
end Go.Proofs.Ytnnladfndmdapaa
/- Logs: Group, by contract. -/
namespace Go.Proofs.Ytnnladfndmdapaa
open Go.RowKit

/-- What a Group has come to. -/
def GroupPost (gl : Nat) (d : Dk) (i : Nat) (p : Pt) (es : List En) (w : World) (e : Ending) (w' : World) : Prop :=
  (e = .returned (.int .i64 100) ∧ (∃ x ∈ es, ¬ x.may) ∧ Below w.heap.size w w') ∨
  ((∀ x ∈ es, x.may) ∧ ∃ (K : Nat) (A : Option Addr) (c : Nat), K ≤ es.length ∧ e = .returned (.int .i64 80) ∧ d.armed = true ∧ (∀ j : Nat, j < K → p.done + j < p.fd) ∧ p.fd ≤ p.done + K ∧
    Turn (lgItem gl d i) w (lgItem gl (d.put i { p with a := { p.a with A := A, c := c, l := p.a.l ++ framesF (es.take K) }, done := p.done + K }) i) w') ∨
  ((∀ x ∈ es, x.may) ∧ (d.armed = true → p.done + es.length < p.fd) ∧ ∃ (A : Option Addr) (c : Nat), e = .returned (.int .i64 0) ∧
    Turn (lgItem gl d i) w (lgItem gl (d.put i { p with a := { p.a with A := A, c := c, l := p.a.l ++ framesF es, safe := (p.a.l ++ framesF es).length }, done := p.done + es.length + 1 }) i) w')
set_option maxRecDepth 100000 in
set_option maxHeartbeats 3200000 in
theorem lGroup_any {w : World} {gl : Nat} {d : Dk} (i : Nat) {p : Pt} (h : (lgItem gl d i).P w) (hn : d.ps.length ≤ 16) (hi0 : d.ps[i]? = some p) (hd0 : 0 ≤ p.done) (hd1 : p.done ≤ 100000000000000000)
    {A : Option Addr} {c : Nat} {es : List En} (hS : Stays (lgItem gl d i).own w (fun w' => kEn.Sl w' w.heap.size A es)) (hks : ∀ e ∈ es, e.key.size ≤ 140737488355328 ∧ e.value.length ≤ 140737488355328)
    (htot : p.a.l.length + 5009 * es.length ≤ 140737488355328) :
    Calls Try.prog 39 #[.pointer (some ⟨gl, 0, none⟩), .slice A es.length c] w (GroupPost gl d i p es w) := by
  have H := Lib.hid h
  have HI := Lib.hid hi0
  have HS := Lib.hid hS
  have HKS := Lib.hid hks
  have heslen : es.length ≤ 100000000000000 := by omega
  have HSL := Lib.hid hS.self
  clear h hi0 hS hks
  go_enter Try.func39, Try.ntmps39
  go_wp2
  go_loopw [13] (fun t wr => ∃ (K : Nat), t = .int .i64 K ∧ K ≤ es.length ∧ Hid (∀ x ∈ es.take K, x.may) ∧ Hid (Below w.heap.size w wr)) (fun t _ => es.length - (intOf t).toNat)
  case atStart => exact ⟨0, rfl, by omega, Lib.hid (fun x hx => by simp at hx), Lib.hid (Below.refl _ _)⟩
  case round =>
    obtain ⟨K, rfl, hK, hM, hB⟩ := hrel
    by_cases hlt : (K : Int) < (es.length : Int)
    · have hKN : K < es.length := by omega
      obtain ⟨bb, off, Av, cv, rfl, hbb, hints, s0, s1, s2, s3, s4, s5, hval⟩ := en_at (HSL.out.below hB.out) hKN
      have hbr : bb < wr.heap.size := Nat.lt_of_lt_of_le hbb hB.out.size
      have hks := HKS.out _ (List.getElem_mem hKN)
      have HMX : Hid ((es[K]).may → ∀ x ∈ es.take (K + 1), x.may) := Lib.hid (fun hm x hx => by
        rw [List.take_succ_eq_append_getElem hKN] at hx
        rcases List.mem_append.1 hx with h | h
        · exact hM.out x h
        · simp only [List.mem_cons, List.not_mem_nil, or_false] at h; subst h; exact hm)
      have HNO : Hid (¬ (es[K]).may → ∃ x ∈ es, ¬ x.may) := Lib.hid (fun h => ⟨_, List.getElem_mem hKN, h⟩)
      obtain ⟨x, hx⟩ : ∃ x, x = es[K] := ⟨_, rfl⟩
      rw [← hx] at s0 s1 s2 s3 s4 s5 hks HMX HNO
      obtain ⟨k, s, n, key, v, dd⟩ := x
      simp only at s0 s1 s2 s3 s4 s5 hks
      have BA := Lib.hid (hB.out.alloc hB.out.size (.cells #[.int .i64 k, .int .i64 s, .int .i64 n, .string key, .slice Av v.length cv, .bool dd] 25))
      have hKi : K + 1 ≤ es.length := by omega
      clear hx hval hints hbb hB
      go_wp2_with fail
      refine (check_any (A := Av) (c := cv) ⟨k, s, n, key, v, dd⟩ hks.1 hks.2).mono ?_
      rintro e w1 ⟨rfl, hb⟩
      have B1 := Lib.hid (BA.out.trans (hb.mono BA.out.size))
      clear hb BA s0 s1 s2 s3 s4 s5
      by_cases hm : En.may ⟨k, s, n, key, v, dd⟩
      · rw [En.chk_ok hm]
        have HM2 := Lib.hid (HMX.out hm)
        clear hm HMX HNO hM
        go_wp2
        exact ⟨⟨K + 1, by go_num, hKi, HM2, B1⟩, by simp [intOf]; omega⟩
      · rw [En.chk_no hm]
        have HN := Lib.hid (HNO.out hm)
        clear hm HMX HNO hM
        go_wp2
        go_ret
        exact .inl ⟨rfl, HN.out, B1.out⟩
    · obtain rfl : K = es.length := by omega
      have HALL := Lib.hid (show ∀ x ∈ es, x.may from by have := hM.out; rwa [List.take_length] at this)
      have HP := Lib.hid (Item.go H.out hB.out)
      have hw := lWrite_any (c := c) i HP.out hn HI.out hd0 hd1 (A := A) (es := es) (fun w' hk => by
        have hk0 := HS.out w' (fun k hlt hn => (hk k (Nat.lt_of_lt_of_le hlt hB.out.size) hn).trans (hB.out.block k hlt))
        exact hk0.more hB.out.size) HKS.out htot
      have HW := Lib.hid hw
      clear hw hM HSL
      go_wp2_with fail
      refine HW.out.mono ?_
      rintro e w1 ⟨K, A', c', m, hKle, rfl, _, hD, hcase, t⟩
      have T1 := Lib.hid (Turn.pre hB.out t)
      have HD := Lib.hid hD
      have HC := Lib.hid hcase
      clear t hD hcase HW
      by_cases hm : m = 0
      · subst hm
        have hKe : K = es.length := by
          rcases HC.out with h | ⟨h, _⟩ | ⟨h, _⟩
          · exact h.2
          · omega
          · omega
        subst hKe
        obtain ⟨a1, ha1⟩ : ∃ a1 : Ar, a1 = { p.a with A := A', c := c', l := p.a.l ++ framesF (es.take es.length) } := ⟨_, rfl⟩
        rw [← ha1] at T1
        rw [List.take_length] at ha1
        have HA1 := Lib.hid ha1
        have HI2 := Lib.hid (put_get (q := { p with a := a1, done := p.done + es.length }) HI.out)
        have hn' : (d.put i { p with a := a1, done := p.done + es.length }).ps.length ≤ 16 := by unfold Dk.put; simpa using hn
        have hdk0 : 0 ≤ p.done + (es.length : Int) := by omega
        have hdk1 : p.done + (es.length : Int) ≤ 1000000000000000000 := by omega
        clear ha1
        by_cases hdn : d.armed = true ∧ p.fd ≤ p.done + es.length
        · have hx := lSync_down i T1.out.p hn' HI2.out hdk0 hdk1 hdn.1 hdn.2
          have HX := Lib.hid hx
          have HDN := Lib.hid hdn
          clear hx hdn hn'
          go_wp2_with fail
          refine HX.out.mono ?_
          rintro e w2 ⟨rfl, hb⟩
          have T2 := Lib.hid (T1.out.go hb)
          clear hb
          go_wp2
          go_ret
          refine .inr (.inl ⟨HALL.out, es.length, A', c', Nat.le_refl _, rfl, HDN.out.1, fun j hj => HD.out j hj HDN.out.1, HDN.out.2, ?_⟩)
          rw [List.take_length, ← HA1.out]
          exact T2.out
        · have hgo : (d.put i { p with a := a1, done := p.done + es.length }).armed = true → ({ p with a := a1, done := p.done + es.length } : Pt).done < p.fd := fun ha => by
            have : ¬ p.fd ≤ p.done + es.length := fun h => hdn ⟨ha, h⟩
            show p.done + (es.length : Int) < p.fd
            omega
          have hx := lSync_any i T1.out.p hn' HI2.out hdk0 hdk1 hgo
          have HX := Lib.hid hx
          have HGO := Lib.hid hgo
          clear hx hdn hn' hgo
          go_wp2_with fail
          refine HX.out.mono ?_
          rintro e w2 ⟨b2, rfl, hg2, rfl, t2⟩
          have T2 := Lib.hid (T1.out.trans t2)
          clear t2 hg2
          go_wp2
          go_ret
          refine .inr (.inr ⟨HALL.out, fun ha => HGO.out ha, A', c', rfl, ?_⟩)
          have := T2.out
          rw [put_put, HA1.out] at this
          exact this
      · have hne : (m != 0) = true := by rw [bne_iff_ne]; exact hm
        have HC2 := Lib.hid (show m = 80 ∧ K < es.length ∧ d.armed = true ∧ p.fd ≤ p.done + K from by
          rcases HC.out with h | ⟨h, hK, hno⟩ | h
          · exact absurd h.1 hm
          · exact absurd (HALL.out _ (List.getElem_mem hK)) hno
          · exact h)
        have hm80 := HC2.out.1
        clear hm HC
        go_wp2
        go_ret
        exact .inr (.inl ⟨HALL.out, K, A', c', hKle, rfl, HC2.out.2.2.1, fun j hj => HD.out j hj HC2.out.2.2.1, HC2.out.2.2.2, T1.out⟩)
end Go.Proofs.Ytnnladfndmdapaa
/- number and row of the reference, by contract. -/
namespace Go.Proofs.Ytnnladfndmdapaa
open Go.RowKit

/-- The number that stands at a place, and the place behind it; -1: none does. -/
def numR (most : Int) (b : List UInt8) (a : Nat) : Int × Int := match numberF 0 most (b.drop a) with | .ok (n, k) => (n, ((a + k : Nat) : Int)) | .error _ => (0, -1)
theorem numR_ok {most n : Int} {b : List UInt8} {a k : Nat} (h : numberF 0 most (b.drop a) = .ok (n, k)) : numR most b a = (n, ((a + k : Nat) : Int)) := by unfold numR; rw [h]
theorem numR_err {most e : Int} {b : List UInt8} {a : Nat} (h : numberF 0 most (b.drop a) = .error e) : numR most b a = (0, -1) := by unfold numR; rw [h]
theorem numF_bad {most N u : Int} {I : Nat} {x : Except Int (Int × Nat)} (h : x = if u < 0 ∨ most < u then .error 21 else .ok (u, I)) (e : u = N) (hb : N < 0 ∨ most < N) : x = .error 21 := by subst e; rw [h, if_pos hb]
theorem numF_good {most N u : Int} {I : Nat} {x : Except Int (Int × Nat)} (h : x = if u < 0 ∨ most < u then .error 21 else .ok (u, I)) (e : u = N) (hb : ¬ (N < 0 ∨ most < N)) : x = .ok (N, I) := by subst e; rw [h, if_neg hb]
theorem half_wrap {V : Nat} (h : V < 18446744073709551616) : IntKind.u64.wrap ((V : Int) / 2) = (V : Int) / 2 := by rw [wrap_u64]; omega
theorem neg_one (q : Nat) : -(q : Int) - 1 < 0 := by omega
theorem not_bad {q : Nat} {most : Int} (h : ¬ most < (q : Int)) : ¬ ((q : Int) < 0 ∨ most < (q : Int)) := by omega
theorem cast_succ' {a I P : Nat} (h : P = a + I) : ((a + (I + 1) : Nat) : Int) = (P : Int) + 1 := by omega
def AnsN (x : Int × Int) (w : World) (e : Ending) (w' : World) : Prop := e = .returned (.tuple #[.int .i64 x.1, .int .i64 x.2]) ∧ w' = w
set_option maxRecDepth 100000 in
set_option maxHeartbeats 1600000 in
theorem rnumber_any {w : World} {B c : Nat} {A : Option Addr} {b : List UInt8} (hr : BReads w B A b) (hl : b.length ≤ 140737488355328) (a : Nat) (ha : a ≤ b.length) (most : Int) (hm0 : 0 ≤ most) (hm1 : most ≤ 4611686018427387904) :
    Calls Try.prog 73 #[.slice A b.length c, .int .i64 a, .int .i64 most] w (AnsN (numR most b a) w) := by
  have HR := Lib.hid hr
  clear hr
  go_enter Try.func73, Try.ntmps73
  go_wp2
  go_loop [8, 9] (fun u i => ∃ (U I : Nat), u = .int .u64 U ∧ i = .int .i64 I ∧ I ≤ 9 ∧ a + I ≤ b.length ∧ Hid (U < 128 ^ I) ∧ Hid (scan 0 0 (b.drop a) = scan I U (b.drop (a + I)))) (fun _ i => 10 - (intOf i).toNat)
  case atStart => exact ⟨0, 0, rfl, rfl, by omega, by omega, Lib.hid (by decide), Lib.hid rfl⟩
  case round =>
    obtain ⟨U, I, rfl, rfl, hI, haI, hU, hS⟩ := hrel
    have hI9 : (I : Int) < 10 := by omega
    obtain ⟨P, hP⟩ : ∃ P, P = a + I := ⟨_, rfl⟩
    have hPI : (a : Int) + (I : Int) = (P : Int) := by omega
    by_cases hlt : P < b.length
    · obtain ⟨bb, off, hA, _, hc⟩ := HR.out.at_ hlt
      have HS := Lib.hid (show scan I U (b.drop (a + I)) = if I = 9 ∧ 1 < (b[P]).toNat then .error 21 else if 128 ≤ (b[P]).toNat then scan (I + 1) (U + (b[P]).toNat % 128 * 128 ^ I) (b.drop (P + 1)) else if (b[P]).toNat = 0 ∧ 0 < I then .error 21 else .ok (U + (b[P]).toNat % 128 * 128 ^ I, I + 1) from by
        rw [← hP, List.drop_eq_getElem_cons hlt, scan])
      obtain ⟨x, hx⟩ : ∃ x : UInt8, x = b[P] := ⟨_, rfl⟩
      rw [← hx] at hc HS
      clear hx
      subst hA
      have hx8 := x.toNat_lt
      by_cases h00 : I = 0 ∧ x.toNat = 0
      · obtain ⟨rfl, hx0⟩ := h00
        obtain rfl : U = 0 := by have := hU.out; rw [Nat.pow_zero] at this; omega
        obtain rfl : x = 0 := UInt8.toNat_inj.1 hx0
        obtain rfl : P = a := by omega
        have HE := Lib.hid (numR_ok (show numberF 0 most (b.drop P) = .ok (0, 0 + 1) from by
          unfold numberF
          rw [if_neg (by omega), hS.out, HS.out, if_neg (by simp), if_neg (by decide), if_neg (by simp)]
          show (if unfoldI 0 < 0 ∨ most < unfoldI 0 then Except.error 21 else Except.ok (unfoldI 0, 0 + 1)) = Except.ok ((0 : Int), 0 + 1)
          rw [show unfoldI 0 = 0 from rfl, if_neg (by omega)]))
        have hltI : (P : Int) < (b.length : Int) := by omega
        rw [show ((0 : UInt8).toNat : Int) = 0 from rfl] at hc
        clear hx0 hx8 hP hPI hI9 hlt HS
        go_wp2
        go_ret2
        exact ⟨by rw [HE.out]; rfl, rfl⟩
      have H00 := Lib.hid h00
      clear h00
      have hltI : (P : Int) < (b.length : Int) := by omega
      have hP0 : P ≤ b.length := by omega
      have HP := Lib.hid hP
      clear hP
      by_cases hbad : I = 9 ∧ 1 < x.toNat
      · obtain ⟨h9, hb1⟩ := hbad
        have hb1' : (1 : Int) < (x.toNat : Int) := by omega
        have HE := Lib.hid (numR_err (show numberF 0 most (b.drop a) = .error 21 from by unfold numberF; rw [if_neg (by omega), hS.out, HS.out, if_pos ⟨h9, hb1⟩]))
        have h9b : ((I : Int) == 9) = true := by simp; omega
        clear h9 hb1
        go_wp2
        go_ret2
        exact ⟨by rw [HE.out]; rfl, rfl⟩
      · obtain ⟨y, hy⟩ : ∃ y, y = x.toNat % 128 := ⟨_, rfl⟩
        obtain ⟨Y, hY⟩ : ∃ Y, Y = y * 128 ^ I := ⟨_, rfl⟩
        obtain ⟨V, hV⟩ : ∃ V, V = U + Y := ⟨_, rfl⟩
        have hUy : Y ≤ (if I = 9 then 1 else 127) * 128 ^ I := by rw [hY]; exact Nat.mul_le_mul_right _ (by split <;> omega)
        have hV64 : V < 18446744073709551616 := by
          have := hU.out
          by_cases h9 : I = 9
          · subst h9; rw [if_pos rfl] at hUy; omega
          · rw [if_neg h9] at hUy
            have h128 : 128 ^ I ≤ 128 ^ 8 := Nat.pow_le_pow_right (by omega) (by omega)
            omega
        have Ex : (x.toNat : Int) % 128 = (y : Int) := by omega
        have Eb : IntKind.u64.wrap ((y : Int) * 2 ^ (7 * I)) = (Y : Int) := by
          have := shl_pow y I (j := I) rfl (by omega)
          rw [show (7 * (I : Int)).toNat = 7 * I from by omega] at this
          rw [this, hY]
        have Ec : (U : Int) + (Y : Int) = (V : Int) := by omega
        have Ed : IntKind.u64.wrap (V : Int) = (V : Int) := by rw [wrap_u64]; omega
        have HV64 := Lib.hid hV64
        have HV : Hid (128 ≤ x.toNat → V < 128 ^ (I + 1)) := Lib.hid (fun h => by
          have h9 : ¬ I = 9 := by omega
          rw [if_neg h9] at hUy
          have := hU.out
          rw [Nat.pow_succ]; omega)
        have hSV := HS.out
        rw [← hy, ← hY, ← hV] at hSV
        replace HS := Lib.hid hSV
        have HNB := Lib.hid hbad
        clear hy hY hV hUy hV64 hbad hSV
        by_cases hm : 128 ≤ x.toNat
        · have hm' : (128 : Int) ≤ (x.toNat : Int) := by omega
          have h9 : ¬ (I : Int) = 9 := by have := HNB.out; omega
          have h9b : ((I : Int) == 9) = false := by simpa using h9
          have HSM := Lib.hid (show scan 0 0 (b.drop a) = scan (I + 1) V (b.drop (a + (I + 1))) from by rw [hS.out, HS.out, if_neg HNB.out, if_pos hm, HP.out]; rfl)
          have HM := Lib.hid hm
          have hle9 : I + 1 ≤ 9 := by omega
          have haI2 : a + (I + 1) ≤ b.length := by have := HP.out; omega
          clear hm h9
          go_wp2
          exact ⟨⟨V, I + 1, rfl, by go_num, hle9, haI2, Lib.hid (HV.out HM.out), HSM⟩, by simp [intOf]; omega⟩
        · have hm' : ¬ (128 : Int) ≤ (x.toNat : Int) := by omega
          have HM := Lib.hid hm
          clear hm
          obtain ⟨z, hz⟩ : ∃ z : Nat, z = V % 2 := ⟨_, rfl⟩
          obtain ⟨q, hq⟩ : ∃ q : Nat, q = V / 2 := ⟨_, rfl⟩
          have Ez : (V : Int) % 2 = (z : Int) := by omega
          have Eq : (V : Int) / 2 = (q : Int) := by omega
          have hq63 : (q : Int) ≤ 9223372036854775807 := by have := HV64.out; omega
          have Em : IntKind.u64.wrap most = most := by rw [wrap_u64]; omega
          have Es : wrap64 (q : Int) = (q : Int) := by unfold wrap64; omega
          have HQ63 := Lib.hid hq63
          clear hq63
          have hunf : unfoldI V = if z = 0 then (q : Int) else -(q : Int) - 1 := by unfold unfoldI; rw [← hz, ← hq]
          have HUNF := Lib.hid hunf
          have hz2 : z = 0 ∨ z = 1 := by omega
          clear hz hq hunf
          have h9e : ((I : Int) == 9) = true ∧ ¬ (1 : Int) < (x.toNat : Int) ∨ ((I : Int) == 9) = false := by
            by_cases h9 : I = 9
            · exact .inl ⟨by simp; omega, by have := HNB.out; omega⟩
            · exact .inr (by simp; omega)
          by_cases hzz : x.toNat = 0 ∧ 0 < I
          · have HE := Lib.hid (numR_err (show numberF 0 most (b.drop a) = .error 21 from by unfold numberF; rw [if_neg (by omega), hS.out, HS.out, if_neg HNB.out, if_neg HM.out, if_pos hzz]))
            have hb0 : ((x.toNat : Int) == 0) = true := by simp; omega
            have hI0 : (0 : Int) < (I : Int) := by omega
            clear hzz hz2 Es Ez Eq
            rcases h9e with ⟨h9b, hb1⟩ | h9b
            all_goals
              go_wp2
              go_ret2
              exact ⟨by rw [HE.out]; rfl, rfl⟩
          · have hx0 : ((x.toNat : Int) == 0) = false := by
              have : ¬ x.toNat = 0 := fun h0 => H00.out ⟨Nat.eq_zero_of_not_pos fun hp => hzz ⟨h0, hp⟩, h0⟩
              simp; omega
            have HNF := Lib.hid (show numberF 0 most (b.drop a) = if unfoldI V < 0 ∨ most < unfoldI V then .error 21 else .ok (unfoldI V, I + 1) from by unfold numberF; rw [if_neg (by omega), hS.out, HS.out, if_neg HNB.out, if_neg HM.out, if_neg hzz])
            have HAI := Lib.hid haI
            have HA := Lib.hid ha
            have HM0 := Lib.hid hm0
            have HEz := Lib.hid Ez
            have HEq := Lib.hid Eq
            have Ew2 : IntKind.u64.wrap ((V : Int) / 2) = (q : Int) := by rw [half_wrap HV64.out]; exact Eq
            clear hzz haI ha hP0 hlt hm1 Ez Eq
            rcases hz2 with hz0 | hz1
            · have hzb : ((V : Int) % 2 == 1) = false := by rw [HEz.out, hz0]; rfl
              have HU := Lib.hid (show unfoldI V = (q : Int) from by rw [HUNF.out, if_pos hz0])
              by_cases hq2 : most < (q : Int)
              · have HE := Lib.hid (numR_err (numF_bad HNF.out HU.out (.inr hq2)))
                clear hz0
                rcases h9e with ⟨h9b, hb1⟩ | h9b
                all_goals
                  go_wp2
                  go_ret2
                  exact ⟨by rw [HE.out]; rfl, rfl⟩
              · have hqn := not_bad hq2
                have HE := Lib.hid (numR_ok (numF_good HNF.out HU.out hqn))
                clear hqn
                have HPN := Lib.hid (cast_succ' HP.out)
                have hq3 : (q : Int) ≤ most := Int.not_lt.1 hq2
                clear hz0 hq2
                rcases h9e with ⟨h9b, hb1⟩ | h9b
                all_goals
                  go_wp2
                  go_ret2
                  exact ⟨by rw [HE.out, HPN.out]; rfl, rfl⟩
            · have hzb : ((V : Int) % 2 == 1) = true := by rw [HEz.out, hz1]; rfl
              have hz0n : ¬ z = 0 := by rw [hz1]; decide
              have hneg := neg_one q
              have HU := Lib.hid (show unfoldI V = -(q : Int) - 1 from by rw [HUNF.out, if_neg hz0n])
              have HE := Lib.hid (numR_err (numF_bad HNF.out HU.out (.inl hneg)))
              clear hz1 hz0n hneg
              rcases h9e with ⟨h9b, hb1⟩ | h9b
              all_goals
                go_wp2
                go_ret2
                exact ⟨by rw [HE.out]; rfl, rfl⟩
    · have HE := Lib.hid (numR_err (show numberF 0 most (b.drop a) = .error 20 from by
        unfold numberF; rw [if_neg (by omega), hS.out, List.drop_of_length_le (by omega), show scan I U [] = .error 20 from by rw [scan]]))
      have hge : (b.length : Int) ≤ (P : Int) := Int.ofNat_le.2 (Nat.le_of_not_lt hlt)
      clear hP hlt
      go_wp2
      go_ret2
      exact ⟨by rw [HE.out]; rfl, rfl⟩
end Go.Proofs.Ytnnladfndmdapaa
