/- Contracts and plain laws that this claim leans on, laid together: PutN, Rdr1, PlainR, Rdr2, Rdr3, Rdr4, Rdr5, Rdr8, Own, Equal, Rws, Mem. -/
import Derived.Test.YtoecgkdipgaaeaaG01
import Derived.Recover
import Derived.Deep.QuietTactic
import Derived.BigQuiet
set_option linter.all false
set_option linter.unusedVariables false
set_option linter.unusedSimpArgs false
set_option linter.unnecessarySimpa false
/- codec.width and codec.Put at every kind: contracts (printed by a program of this claim's own). -/
namespace Go.Proofs.Ytoecgkdipgaaeaa
open Go.RowKit
theorem pow256 (d : Nat) : ((256 ^ (d + 1) - 1 : Nat) : Int) / 256 = ((256 ^ d - 1 : Nat) : Int) := by
  have h : 0 < 256 ^ d := Nat.pow_pos (by decide)
  rw [Nat.pow_succ]; omega
theorem shr_byte (v d : Nat) {j : Int} (h : j = (d : Int)) : (v : Int) / 2 ^ (8 * j).toNat % 256 = ((v / 256 ^ d % 256 : Nat) : Int) := by
  subst h
  rw [show (8 * (d : Int)).toNat = 8 * d from by omega, show (256 : Nat) ^ d = 2 ^ (8 * d) from by rw [Nat.pow_mul]]
  have : ((2 : Int) ^ (8 * d)) = ((2 ^ (8 * d) : Nat) : Int) := by simp
  rw [this]; omega
theorem shr_byte' (v d : Nat) (hv : v < 256) {j : Int} (h : j = (d : Int)) : (v : Int) / 2 ^ (8 * j).toNat = ((v / 256 ^ d % 256 : Nat) : Int) := by
  rw [← shr_byte v d h]
  subst h
  have : ((2 : Int) ^ (8 * (d : Int)).toNat) = ((2 ^ (8 * (d : Int)).toNat : Nat) : Int) := by simp
  rw [this]
  have h := Nat.div_le_self v (2 ^ (8 * (d : Int)).toNat)
  rw [← Int.natCast_ediv]
  generalize v / 2 ^ (8 * (d : Int)).toNat = q at h ⊢
  omega
theorem width8_any {w : World} : Calls Try.prog 126 #[] w fun e w' => e = .returned (.int .i64 1) ∧ w = w' := by
  go_enter Try.func126, Try.ntmps126
  go_wp2
  go_loop [1, 2] (fun n u => ∃ k d : Nat, n = .int .i64 k ∧ u = .int .u64 ((256 ^ d - 1 : Nat) : Int) ∧ Hid (k + d = 1)) (fun n _ => 1 - (intOf n).toNat)
  case atStart => exact ⟨0, 1, rfl, rfl, Lib.hid rfl⟩
  case round =>
    obtain ⟨k, d, rfl, rfl, hd⟩ := hrel
    have hk2 : k ≤ 1 := by have := hd.out; omega
    cases d with
    | zero =>
      have hk : k = 1 := by have := hd.out; omega
      subst hk
      go_wp2
      go_ret
      exact ⟨rfl, rfl⟩
    | succ d =>
      have hp : 0 < 256 ^ d := Nat.pow_pos (by decide)
      have hb : (0 : Int) < ((256 ^ (d + 1) - 1 : Nat) : Int) := by rw [Nat.pow_succ]; omega
      obtain ⟨X, hX⟩ : ∃ X : Nat, X = 256 ^ (d + 1) - 1 := ⟨_, rfl⟩
      rw [← hX] at hb ⊢
      have HX := Lib.hid hX
      clear hX hp
      go_wp2
      go_round
      case rel => exact ⟨k + 1, d, by go_num, by rw [HX.out, pow256], Lib.hid (by have := hd.out; omega)⟩
      case measure => simp [intOf]; have := hd.out; omega
theorem put8_any {w : World} {B c : Nat} {A : Option Addr} {l : List UInt8} (v : Nat) (hr : BReads w B A l)
    (hv : v < 256) (hl : l.length ≤ 140737488355200) :
    Calls Try.prog 112 #[.slice A l.length c, .int .u8 v] w (GivesB w (l ++ beN 1 v)) := by
  have hv' : (v : Int) < 256 := by omega
  have HV := Lib.hid hv
  clear hv
  go_enter Try.func112, Try.ntmps112
  go_wp2_with fail
  refine (own_any hr (by omega)).mono ?_
  rintro e w1 h
  obtain ⟨L1, A1, c1, rfl, E1, O1, _, B1⟩ := h.named
  clear h
  go_wp2_with fail
  refine width8_any.mono ?_
  rintro e w2 ⟨rfl, rfl⟩
  go_wp2
  go_loopw [0, 5] (fun b i wr => ∃ (j : Int) (k d : Nat) (pre : List UInt8), i = .int .i64 j ∧ Hid (j = (d : Int) - 1) ∧ Hid (k + d = 1) ∧ Hid (beN 1 v = pre ++ beN d v) ∧ Hid (BOwns wr w.heap.size b (l ++ pre)) ∧ Hid (Below w.heap.size w wr)) (fun _ i _ => (intOf i + 1).toNat)
  case atStart => exact ⟨_, 0, 1, [], rfl, Lib.hid (by omega), Lib.hid (by omega), Lib.hid rfl, Lib.hid (by rw [List.append_nil, ← E1.out]; exact O1.out), B1⟩
  case round =>
    obtain ⟨j, k, d, pre, rfl, hj, hd, hpre, ho, hb⟩ := hrel
    by_cases h1 : 0 ≤ j
    · have h2 : j < 8 := by have := hd.out; have := hj.out; omega
      obtain ⟨d, rfl⟩ : ∃ d', d = d' + 1 := ⟨d - 1, by have := hj.out; omega⟩
      have hpl : (l ++ pre).length ≤ 140737488355300 := by
        have e := congrArg List.length hpre.out
        rw [List.length_append, beN_length, beN_length] at e
        rw [List.length_append]; omega
      go_wp2_with (at_builtin; refine Stop.of ?_)
      refine ⟨append_bytes (m := [UInt8.ofNat (v / 256 ^ d % 256)]) (ho.out.alloc _) (byte_src wr _ (by rw [u8_int _ (by omega)]; first | exact shr_byte v d (by have := hj.out; omega) | exact shr_byte' v d HV.out (by have := hj.out; omega))) (by simp only [List.length_cons, List.length_nil]; omega) (by have := hb.out.size; simp; omega) rfl rfl rfl rfl ?_⟩
      intro v' w3 ho1 hg1 _
      have HO := Lib.hid ho1
      have HB := Lib.hid (below_grown (hb.out.trans ((Below.refl _ _).alloc hb.out.size _)) (ho.out.alloc _) hg1)
      clear ho1 hg1 hpl
      go_wp2
      go_roundw
      case rel => exact ⟨_, k + 1, d, pre ++ [UInt8.ofNat (v / 256 ^ d % 256)], rfl, Lib.hid (by have := hj.out; omega), Lib.hid (by have := hd.out; omega), Lib.hid (by rw [hpre.out]; simp [beN]), Lib.hid (by rw [← List.append_assoc]; exact HO.out), HB⟩
      case measure => simp [intOf]; omega
    · go_wp2
      go_ret
      obtain rfl : d = 0 := by have := hj.out; omega
      exact ⟨_, rfl, by rw [hpre.out]; simpa [beN] using ho.out, hb.out⟩
theorem width32_any {w : World} : Calls Try.prog 128 #[] w fun e w' => e = .returned (.int .i64 4) ∧ w = w' := by
  go_enter Try.func128, Try.ntmps128
  go_wp2
  go_loop [1, 2] (fun n u => ∃ k d : Nat, n = .int .i64 k ∧ u = .int .u64 ((256 ^ d - 1 : Nat) : Int) ∧ Hid (k + d = 4)) (fun n _ => 4 - (intOf n).toNat)
  case atStart => exact ⟨0, 4, rfl, rfl, Lib.hid rfl⟩
  case round =>
    obtain ⟨k, d, rfl, rfl, hd⟩ := hrel
    have hk2 : k ≤ 4 := by have := hd.out; omega
    cases d with
    | zero =>
      have hk : k = 4 := by have := hd.out; omega
      subst hk
      go_wp2
      go_ret
      exact ⟨rfl, rfl⟩
    | succ d =>
      have hp : 0 < 256 ^ d := Nat.pow_pos (by decide)
      have hb : (0 : Int) < ((256 ^ (d + 1) - 1 : Nat) : Int) := by rw [Nat.pow_succ]; omega
      obtain ⟨X, hX⟩ : ∃ X : Nat, X = 256 ^ (d + 1) - 1 := ⟨_, rfl⟩
      rw [← hX] at hb ⊢
      have HX := Lib.hid hX
      clear hX hp
      go_wp2
      go_round
      case rel => exact ⟨k + 1, d, by go_num, by rw [HX.out, pow256], Lib.hid (by have := hd.out; omega)⟩
      case measure => simp [intOf]; have := hd.out; omega
theorem put32_any {w : World} {B c : Nat} {A : Option Addr} {l : List UInt8} (v : Nat) (hr : BReads w B A l)
    (hv : v < 4294967296) (hl : l.length ≤ 140737488355200) :
    Calls Try.prog 116 #[.slice A l.length c, .int .u32 v] w (GivesB w (l ++ beN 4 v)) := by
  have hv' : (v : Int) < 4294967296 := by omega
  have HV := Lib.hid hv
  clear hv
  go_enter Try.func116, Try.ntmps116
  go_wp2_with fail
  refine (own_any hr (by omega)).mono ?_
  rintro e w1 h
  obtain ⟨L1, A1, c1, rfl, E1, O1, _, B1⟩ := h.named
  clear h
  go_wp2_with fail
  refine width32_any.mono ?_
  rintro e w2 ⟨rfl, rfl⟩
  go_wp2
  go_loopw [0, 5] (fun b i wr => ∃ (j : Int) (k d : Nat) (pre : List UInt8), i = .int .i64 j ∧ Hid (j = (d : Int) - 1) ∧ Hid (k + d = 4) ∧ Hid (beN 4 v = pre ++ beN d v) ∧ Hid (BOwns wr w.heap.size b (l ++ pre)) ∧ Hid (Below w.heap.size w wr)) (fun _ i _ => (intOf i + 1).toNat)
  case atStart => exact ⟨_, 0, 4, [], rfl, Lib.hid (by omega), Lib.hid (by omega), Lib.hid rfl, Lib.hid (by rw [List.append_nil, ← E1.out]; exact O1.out), B1⟩
  case round =>
    obtain ⟨j, k, d, pre, rfl, hj, hd, hpre, ho, hb⟩ := hrel
    by_cases h1 : 0 ≤ j
    · have h2 : j < 8 := by have := hd.out; have := hj.out; omega
      obtain ⟨d, rfl⟩ : ∃ d', d = d' + 1 := ⟨d - 1, by have := hj.out; omega⟩
      have hpl : (l ++ pre).length ≤ 140737488355300 := by
        have e := congrArg List.length hpre.out
        rw [List.length_append, beN_length, beN_length] at e
        rw [List.length_append]; omega
      go_wp2_with (at_builtin; refine Stop.of ?_)
      refine ⟨append_bytes (m := [UInt8.ofNat (v / 256 ^ d % 256)]) (ho.out.alloc _) (byte_src wr _ (by rw [u8_int _ (by omega)]; first | exact shr_byte v d (by have := hj.out; omega) | exact shr_byte' v d HV.out (by have := hj.out; omega))) (by simp only [List.length_cons, List.length_nil]; omega) (by have := hb.out.size; simp; omega) rfl rfl rfl rfl ?_⟩
      intro v' w3 ho1 hg1 _
      have HO := Lib.hid ho1
      have HB := Lib.hid (below_grown (hb.out.trans ((Below.refl _ _).alloc hb.out.size _)) (ho.out.alloc _) hg1)
      clear ho1 hg1 hpl
      go_wp2
      go_roundw
      case rel => exact ⟨_, k + 1, d, pre ++ [UInt8.ofNat (v / 256 ^ d % 256)], rfl, Lib.hid (by have := hj.out; omega), Lib.hid (by have := hd.out; omega), Lib.hid (by rw [hpre.out]; simp [beN]), Lib.hid (by rw [← List.append_assoc]; exact HO.out), HB⟩
      case measure => simp [intOf]; omega
    · go_wp2
      go_ret
      obtain rfl : d = 0 := by have := hj.out; omega
      exact ⟨_, rfl, by rw [hpre.out]; simpa [beN] using ho.out, hb.out⟩
end Go.Proofs.Ytoecgkdipgaaeaa
/- The reader's inner functions: reading$1 (the deferred closure), take. -/
namespace Go.Proofs.Ytoecgkdipgaaeaa
open Go.RowKit

/-- Block g of w is just the cells cs of element type t, none of them frozen. -/
def Blk (w : World) (g : Nat) (t : TypeId) (cs : Array Value) : Prop := w.heap[g]? = some (.cells cs t (0, 0))
section
variable {w w' : World} {g : Nat} {t : TypeId} {cs : Array Value}
theorem Blk.lt (h : Blk w g t cs) : g < w.heap.size := by
  rcases Nat.lt_or_ge g w.heap.size with hlt | hge
  · exact hlt
  · unfold Blk at h; rw [Array.getElem?_eq_none hge] at h; cases h
theorem Blk.cell (h : Blk w g t cs) (i : Nat) : w.cell? ⟨g, i, none⟩ = cs[i]? := cell_of_row w g i cs t (0, 0) h
theorem Blk.frozen (h : Blk w g t cs) (i : Nat) : w.frozen? ⟨g, i, none⟩ = false := by
  unfold Blk at h
  simp [World.frozen?, h]
theorem Blk.new (w : World) (t : TypeId) (cs : Array Value) : Blk (w.alloc (.cells cs t)) w.heap.size t cs := heap_alloc_new w _
theorem Blk.drewN (h : Blk w g t cs) (n : Nat) : Blk (w.drewN n) g t cs := h
theorem Blk.alloc (h : Blk w g t cs) (o : Obj) : Blk (w.alloc o) g t cs := (Below.heap_alloc w o g h.lt).trans h
theorem Blk.set_ (h : Blk w g t cs) (i : Nat) (u : Value) : Blk (w.setCell ⟨g, i, none⟩ u) g t (cs.setIfInBounds i u) := by
  unfold Blk at h ⊢
  simp [World.setCell, Array.getElem?_modify, h]
theorem Blk.far (h : Blk w g t cs) {p : Addr} (hp : g ≠ p.block) (u : Value) : Blk (w.setCell p u) g t cs := (Below.heap_setCell w p u g hp).trans h
theorem Blk.below {B : Nat} (h : Blk w g t cs) (hb : Below B w w') (hg : g < B) : Blk w' g t cs := (hb.block g hg).trans h
end

theorem assert_errno (m : Int) (w : World) : (Instr.typeAssert (.iface 37 (.int .i64 m)) 20 37 true).run Try.prog w = .ok (.tuple #[.int .i64 m, .bool true]) w := by
  simp [Instr.typeAssert, run_underlying Try.underlying37]
/-- The panic that gives up with error m. -/
def gaveUp (m : Int) : Ending := .panicked [{ v := .iface 37 (.int .i64 m), recovered := false }]
/-- The slice A of the bytes l lies in a block of bytes. -/
def Ours (w : World) (A : Option Addr) (l : List UInt8) : Prop := 0 < l.length → ∃ b o cur fr, A = some ⟨b, o, none⟩ ∧ w.heap[b]? = some (.cells cur 5 fr)
theorem Ours.keep {w w' : World} {B : Nat} {A : Option Addr} {l : List UInt8} (h : Ours w A l) (hr : BReads w B A l) (hk : ∀ i, i < B → w'.heap[i]? = w.heap[i]?) : Ours w' A l := fun hp => by
  obtain ⟨b, o, cur, fr, e, hh⟩ := h hp
  obtain ⟨b', o', e', hb, _⟩ := hr.2 hp
  rw [e] at e'
  injection e' with e'
  injection e' with e' _ _
  subst e'
  exact ⟨b, o, cur, fr, e, (hk b hb).trans hh⟩
theorem drewN_grown (w : World) (m : Nat) (row : Option Nat) : w.grownBy (w.drewN m) row := ⟨rfl, rfl, rfl, Nat.le_refl _, fun _ _ _ => rfl⟩
theorem grown_trans {a b c : World} {row : Option Nat} (h : a.grownBy b row) (k : b.grownBy c row) : a.grownBy c row :=
  ⟨k.os.trans h.os, k.tape.trans h.tape, k.output.trans h.output, Nat.le_trans h.size k.size, fun i hi hn => (k.block i (Nat.lt_of_lt_of_le hi h.size) hn).trans (h.block i hi hn)⟩
theorem grown_setCell (w : World) (g o : Nat) (u : Value) : w.grownBy (w.setCell ⟨g, o, none⟩ u) (some g) :=
  ⟨rfl, rfl, rfl, by simp [World.setCell], fun k _ hk => Below.heap_setCell w _ u k (fun e => hk (by rw [e]))⟩

theorem reads_sub {w : World} {B : Nat} {A : Option Addr} {l : List UInt8} (h : BReads w B A l) {at_ n c : Nat} (hn : at_ + n ≤ l.length) (hc : l.length ≤ c) :
    BReads w B (if c = at_ then A else A.map (·.add at_)) ((l.drop at_).take n) := by
  have hlen : ((l.drop at_).take n).length = n := by rw [List.length_take, List.length_drop]; omega
  refine ⟨by rw [bys_length, Nat.mul_one], fun hp => ?_⟩
  rw [hlen] at hp
  obtain ⟨b, off, rfl, hb, hcell⟩ := h.2 (by omega)
  rw [if_neg (by omega)]
  refine ⟨b, off + at_, by rw [Option.map_some, add_lit0], hb, fun j u hu => ?_⟩
  rw [Nat.add_assoc]
  refine hcell (at_ + j) u ?_
  have hj : j < n := by have := (List.getElem?_eq_some_iff.1 hu).1; rw [bys_length, hlen] at this; exact this
  rw [← hu, bys_get, bys_get, List.getElem?_take, if_pos hj, List.getElem?_drop]
theorem reads_sub_eq {w : World} {B : Nat} {A : Option Addr} {l : List UInt8} (h : BReads w B A l) {at_ n c : Nat} (hn : at_ + n ≤ l.length) (hc : l.length ≤ c) (e : c = at_) : BReads w B A ((l.drop at_).take n) := by
  have := reads_sub h hn hc; rwa [if_pos e] at this
theorem reads_sub_ne {w : World} {B : Nat} {A : Option Addr} {l : List UInt8} (h : BReads w B A l) {at_ n c : Nat} (hn : at_ + n ≤ l.length) (hc : l.length ≤ c) (e : ¬ c = at_) : BReads w B (A.map (·.add at_)) ((l.drop at_).take n) := by
  have := reads_sub h hn hc; rwa [if_neg e] at this

end Go.Proofs.Ytoecgkdipgaaeaa
/- Plain words on reading short forms. No program in sight. -/
namespace Go.Proofs.Ytoecgkdipgaaeaa
open Go.RowKit

/-- What a short form comes to, from its i-th byte on, u being what stood ahead: the error, or the fold and the number of its bytes. -/
def scan (i u : Nat) : List UInt8 → Except Int (Nat × Nat)
  | [] => .error 20
  | b :: r =>
    if i = 9 ∧ 1 < b.toNat then .error 21
    else if 128 ≤ b.toNat then scan (i + 1) (u + b.toNat % 128 * 128 ^ i) r
    else if b.toNat = 0 ∧ 0 < i then .error 21
    else .ok (u + b.toNat % 128 * 128 ^ i, i + 1)
/-- The number whose fold this is. -/
def unfoldI (u : Nat) : Int := if u % 2 = 0 then (u / 2 : Nat) else -((u / 2 : Nat) : Int) - 1
def numberF (low high : Int) (l : List UInt8) : Except Int (Int × Nat) :=
  if high < low then .error 2 else
  match scan 0 0 l with
  | .error e => .error e
  | .ok (u, k) => if unfoldI u < low ∨ high < unfoldI u then .error 21 else .ok (unfoldI u, k)
def blockF (most : Int) (l : List UInt8) : Except Int (List UInt8 × Nat) :=
  if most < 0 then .error 2 else
  match numberF 0 most l with
  | .error e => .error e
  | .ok (n, k) => if (l.length : Int) - k < n then .error 20 else .ok ((l.drop k).take n.toNat, k + n.toNat)

theorem scan_ok {l : List UInt8} : ∀ {i u v k : Nat}, scan i u l = .ok (v, k) → i < k ∧ k - i ≤ l.length ∧ (i ≤ 9 → u < 128 ^ i → v < 18446744073709551616 ∧ k ≤ 10) := by
  induction l with
  | nil => intro i u v k h; simp [scan] at h
  | cons b r ih =>
    intro i u v k h
    rw [scan] at h
    by_cases h9 : i = 9 ∧ 1 < b.toNat
    · rw [if_pos h9] at h; cases h
    · rw [if_neg h9] at h
      by_cases h1 : 128 ≤ b.toNat
      · rw [if_pos h1] at h
        obtain ⟨a1, a2, a3⟩ := ih h
        refine ⟨by omega, by simp only [List.length_cons]; omega, fun hi hu => ?_⟩
        have hi8 : i ≤ 8 := by omega
        refine a3 (by omega) ?_
        have : b.toNat % 128 * 128 ^ i ≤ 127 * 128 ^ i := Nat.mul_le_mul_right _ (by omega)
        rw [Nat.pow_succ]; omega
      · rw [if_neg h1] at h
        by_cases h2 : b.toNat = 0 ∧ 0 < i
        · rw [if_pos h2] at h; cases h
        · rw [if_neg h2] at h
          injection h with h
          injection h with h3 h4
          subst h3; subst h4
          refine ⟨by omega, by simp only [List.length_cons]; omega, fun hi hu => ⟨?_, by omega⟩⟩
          by_cases h99 : i = 9
          · subst h99
            have : b.toNat % 128 * 128 ^ 9 ≤ 1 * 128 ^ 9 := Nat.mul_le_mul_right _ (by omega)
            omega
          · have : b.toNat % 128 * 128 ^ i ≤ 127 * 128 ^ i := Nat.mul_le_mul_right _ (by omega)
            have h128 : 128 ^ i ≤ 128 ^ 8 := Nat.pow_le_pow_right (by omega) (by omega)
            omega
theorem scan_err {l : List UInt8} : ∀ {i u : Nat} {e : Int}, scan i u l = .error e → e = 20 ∨ e = 21 := by
  induction l with
  | nil => intro i u e h; simp [scan] at h; exact .inl h.symm
  | cons b r ih =>
    intro i u e h
    rw [scan] at h
    split at h
    · injection h with h; exact .inr h.symm
    · split at h
      · exact ih h
      · split at h
        · injection h with h; exact .inr h.symm
        · cases h
theorem numberF_ok {low high n : Int} {k : Nat} {l : List UInt8} (h : numberF low high l = .ok (n, k)) : low ≤ n ∧ n ≤ high ∧ 0 < k ∧ k ≤ l.length := by
  unfold numberF at h
  by_cases h0 : high < low
  · rw [if_pos h0] at h; cases h
  · rw [if_neg h0] at h
    cases hs : scan 0 0 l with
    | error e => rw [hs] at h; cases h
    | ok x =>
      obtain ⟨u, k'⟩ := x
      rw [hs] at h
      simp only at h
      by_cases h1 : unfoldI u < low ∨ high < unfoldI u
      · rw [if_pos h1] at h; cases h
      · rw [if_neg h1] at h
        injection h with h
        injection h with h3 h4
        subst h3; subst h4
        have := scan_ok hs
        omega
theorem numberF_err {low high e : Int} {l : List UInt8} (h : numberF low high l = .error e) : ¬ e = 0 := by
  unfold numberF at h
  split at h
  · injection h with h; omega
  · cases hs : scan 0 0 l with
    | error e' =>
      rw [hs] at h
      injection h with h
      have := scan_err hs
      omega
    | ok x =>
      obtain ⟨u, k⟩ := x
      rw [hs] at h
      simp only at h
      split at h
      · injection h with h; omega
      · cases h
theorem andNot128 (b : UInt8) : bits .andNot .u8 (b.toNat : Int) 128 = ((b.toNat % 128 : Nat) : Int) := by
  have hb := b.toNat_lt
  rw [show (128 : Int) = ((128 : Nat) : Int) from rfl, u8_andNot_nat _ _ (by omega) (by omega), show 255 - 128 = 127 from rfl, nat_mask7]
theorem or_add (i u x : Nat) (hu : u < 128 ^ i) (h : u + x * 128 ^ i < 18446744073709551616) : bits .or .u64 (u : Int) ((x * 128 ^ i : Nat) : Int) = ((u + x * 128 ^ i : Nat) : Int) := by
  rw [u64_or_nat _ _ (by omega) (by omega)]
  congr 1
  rw [Nat.or_comm, nat_join (7 * i) (x * 128 ^ i) u (by rw [Nat.pow_mul]; exact Nat.mul_mod_left _ _) (by rw [Nat.pow_mul]; exact hu)]
  omega
theorem shl_pow (x i : Nat) {j : Int} (hj : j = (i : Int)) (h : x * 128 ^ i < 18446744073709551616) : IntKind.u64.wrap ((x : Int) * 2 ^ (7 * j).toNat) = ((x * 128 ^ i : Nat) : Int) := by
  subst hj
  rw [wrap_u64, show (7 * (i : Int)).toNat = 7 * i from by omega]
  have e : ((2 : Int) ^ (7 * i)) = ((128 ^ i : Nat) : Int) := by rw [show (128 : Nat) = 2 ^ 7 from rfl, ← Nat.pow_mul]; simp
  rw [e, ← Int.natCast_mul]
  omega
theorem ofInt_i64' (a : Nat) (ha : a < 9223372036854775808) : (BitVec.ofInt 64 (a : Int)).toNat = a := by
  rw [BitVec.ofInt_natCast, BitVec.toNat_ofNat]; exact Nat.mod_eq_of_lt (by omega)
/-- int(u >> 1) ^ -int(u & 1) is the number whose fold u is. -/
theorem unfold_bits (u z : Nat) (hu : u < 18446744073709551616) (hz : z = u % 2) : bits .xor .i64 ((u : Int) / 2) (-(z : Int)) = unfoldI u := by
  unfold unfoldI
  rw [show ((u : Int) / 2) = ((u / 2 : Nat) : Int) from by omega]
  show IntKind.i64.wrap ((BitVec.ofInt 64 ((u / 2 : Nat) : Int) ^^^ BitVec.ofInt 64 (-(z : Int))).toNat : Int) = _
  rcases (show u % 2 = 0 ∨ u % 2 = 1 from by omega) with h | h
  · rw [if_pos h, hz, h]
    have h2 : (BitVec.ofInt 64 (-((0 : Nat) : Int))).toNat = 0 := by decide
    rw [BitVec.toNat_xor, ofInt_i64' _ (by omega), h2, Nat.xor_zero, IntKind.wrap_i64]
    omega
  · rw [if_neg (by omega), hz, h]
    have h2 : (BitVec.ofInt 64 (-((1 : Nat) : Int))).toNat = 18446744073709551615 := by decide
    rw [BitVec.toNat_xor, ofInt_i64' _ (by omega), h2, u64_ones' _ (by omega), IntKind.wrap_i64]
    omega
theorem and1 (u : Nat) (hu : u < 18446744073709551616) : bits .and .u64 (u : Int) 1 = ((u % 2 : Nat) : Int) := by
  rw [show (1 : Int) = ((1 : Nat) : Int) from rfl, u64_and_nat _ _ hu (by omega), nat_mask1]
/-- The number that bytes say, the highest first. -/
def beVal (l : List UInt8) : Nat := l.foldl (fun v b => v * 256 + b.toNat) 0
def takeF (n : Nat) (l : List UInt8) : Except Int (Nat × Nat) := if l.length < n then .error 20 else .ok (beVal (l.take n), n)
theorem beVal_take {p : List UInt8} {k : Nat} (h : k < p.length) : beVal (p.take (k + 1)) = beVal (p.take k) * 256 + p[k].toNat := by
  rw [List.take_succ_eq_append_getElem h]; unfold beVal; rw [List.foldl_append]; rfl
theorem beVal_lt (p : List UInt8) (k : Nat) : beVal (p.take k) < 256 ^ k := by
  induction k with
  | zero => simp [beVal]
  | succ k ih =>
    by_cases h : k < p.length
    · rw [beVal_take h, Nat.pow_succ]; have := p[k].toNat_lt; omega
    · rw [List.take_of_length_le (by omega)]
      rw [List.take_of_length_le (by omega)] at ih
      rw [Nat.pow_succ]; omega
theorem or_byte (v b : Nat) (hv : v * 256 + b < 18446744073709551616) (hb : b < 256) : bits .or .u64 ((v * 256 : Nat) : Int) (b : Int) = ((v * 256 + b : Nat) : Int) := by
  have h2 : v * 256 < 18446744073709551616 := Nat.lt_of_le_of_lt (Nat.le_add_right _ _) hv
  have h3 : b < 18446744073709551616 := Nat.lt_of_le_of_lt (Nat.le_add_left _ _) hv
  rw [u64_or_nat (v * 256) b h2 h3, nat_join 8 (v * 256) b (Nat.mul_mod_left v (2 ^ 8)) hb]
theorem wrap_mul256 (v : Nat) (hv : v < 256 ^ 7) : IntKind.u64.wrap ((v : Int) * 256) = (v : Int) * 256 := by
  rw [wrap_u64]; omega
theorem or_byte' (v : Nat) (b : UInt8) (hv : v < 256 ^ 7) : bits .or .u64 ((v : Int) * 256) (b.toNat : Int) = ((v * 256 + b.toNat : Nat) : Int) := by
  have hb := b.toNat_lt
  have := or_byte v b.toNat (by omega) (by omega)
  rw [← this, Int.natCast_mul]; rfl
theorem be_wrap (v : Nat) (b : UInt8) (hv : v < 256 ^ 7) : IntKind.u64.wrap ((v : Int) * 256 + (b.toNat : Int)) = ((v * 256 + b.toNat : Nat) : Int) := by
  have hb := b.toNat_lt
  rw [wrap_u64]; omega
theorem takeF_lt {w n k : Nat} {l : List UInt8} (h : takeF w l = .ok (n, k)) : n < 256 ^ w ∧ k = w ∧ w ≤ l.length := by
  unfold takeF at h
  by_cases h0 : l.length < w
  · rw [if_pos h0] at h; cases h
  · rw [if_neg h0] at h
    injection h with h
    injection h with h1 h2
    subst h1
    exact ⟨beVal_lt l w, h2.symm, by omega⟩

/-- What bytes of a short form say, the lowest first. -/
def valF : List UInt8 → Nat
  | [] => 0
  | b :: r => b.toNat % 128 + 128 * valF r
theorem valF_append (p : List UInt8) (b : UInt8) : valF (p ++ [b]) = valF p + b.toNat % 128 * 128 ^ p.length := by
  induction p with
  | nil => simp [valF]
  | cons a p ih =>
    simp only [List.cons_append, valF, ih, List.length_cons, Nat.pow_succ]
    rw [Nat.mul_add, ← Nat.add_assoc, Nat.mul_comm (128 ^ p.length) 128, Nat.mul_left_comm]
theorem valF_lt (p : List UInt8) : valF p < 128 ^ p.length := by
  induction p with
  | nil => simp [valF]
  | cons a p ih => simp only [valF, List.length_cons, Nat.pow_succ]; omega
theorem valF_take {l : List UInt8} {k : Nat} (h : k < l.length) : valF (l.take (k + 1)) = valF (l.take k) + l[k].toNat % 128 * 128 ^ k := by
  rw [List.take_succ_eq_append_getElem h, valF_append, List.length_take, Nat.min_eq_left (by omega)]
theorem valF_drop {p : List UInt8} {j : Nat} (h : j < p.length) : valF (p.drop j) = p[j].toNat % 128 + 128 * valF (p.drop (j + 1)) := by
  rw [List.drop_eq_getElem_cons h]; rfl
theorem valF_drop_le (p : List UInt8) : ∀ j, valF (p.drop j) ≤ valF p := by
  induction p with
  | nil => intro j; simp [valF]
  | cons a p ih =>
    intro j
    cases j with
    | zero => simp
    | succ j => have := ih j; simp only [List.drop_succ_cons, valF]; omega
/-- One more byte of a short form. -/
theorem scan_step {l : List UInt8} {I : Nat} (h : I < l.length) : scan I (valF (l.take I)) (l.drop I) =
    if I = 9 ∧ 1 < l[I].toNat then .error 21 else if 128 ≤ l[I].toNat then scan (I + 1) (valF (l.take (I + 1))) (l.drop (I + 1)) else if l[I].toNat = 0 ∧ 0 < I then .error 21 else .ok (valF (l.take (I + 1)), I + 1) := by
  rw [List.drop_eq_getElem_cons h, scan, valF_take h]
def formF (l : List UInt8) : Nat × Nat × Int := match scan 0 0 l with | .ok (u, k) => (u, k, 0) | .error e => (0, 0, e)
end Go.Proofs.Ytoecgkdipgaaeaa
/- The reader's inner functions: number, block. -/
namespace Go.Proofs.Ytoecgkdipgaaeaa
open Go.RowKit

end Go.Proofs.Ytoecgkdipgaaeaa
/- The reader's inner function block; reading. -/
namespace Go.Proofs.Ytoecgkdipgaaeaa
open Go.RowKit

end Go.Proofs.Ytoecgkdipgaaeaa
/- reading: the deferred closure that recovers; by a contract for whatever closure it calls. -/
namespace Go.Proofs.Ytoecgkdipgaaeaa
open Go.RowKit

/-- w' is w with new blocks, and with writes to the blocks of S alone. -/
structure Keeps (S : Nat → Prop) (w w' : World) : Prop where
  os : w'.os = w.os
  tape : w'.tape = w.tape
  output : w'.output = w.output
  size : w.heap.size ≤ w'.heap.size
  block : ∀ k, k < w.heap.size → ¬ S k → w'.heap[k]? = w.heap[k]?
theorem Keeps.refl (S : Nat → Prop) (w : World) : Keeps S w w := ⟨rfl, rfl, rfl, Nat.le_refl _, fun _ _ _ => rfl⟩
theorem Keeps.trans {S S' : Nat → Prop} {a b c : World} (h : Keeps S a b) (k : Keeps S' b c) (hs : ∀ i, S' i → S i ∨ a.heap.size ≤ i) : Keeps S a c :=
  ⟨k.os.trans h.os, k.tape.trans h.tape, k.output.trans h.output, Nat.le_trans h.size k.size, fun i hi hn => (k.block i (Nat.lt_of_lt_of_le hi h.size) (fun e => (hs i e).elim hn (fun h => by omega))).trans (h.block i hi hn)⟩
theorem Keeps.of_grown {w w' : World} {row : Option Nat} (h : w.grownBy w' row) : Keeps (fun k => some k = row) w w' := ⟨h.os, h.tape, h.output, h.size, fun k hk hn => h.block k hk hn⟩
theorem Keeps.of_below {w w' : World} (h : Below w.heap.size w w') (S : Nat → Prop) : Keeps S w w' := ⟨h.os, h.tape, h.output, h.size, fun k hk _ => h.block k hk⟩
theorem Keeps.mono {S S' : Nat → Prop} {w w' : World} (h : Keeps S w w') (hs : ∀ i, S i → S' i ∨ w.heap.size ≤ i) : Keeps S' w w' :=
  ⟨h.os, h.tape, h.output, h.size, fun i hi hn => h.block i hi (fun e => (hs i e).elim hn (fun h => by omega))⟩
theorem Keeps.below {S : Nat → Prop} {w w' : World} {B : Nat} (h : Keeps S w w') (hB : B ≤ w.heap.size) (hs : ∀ i, S i → B ≤ i) : Below B w w' :=
  ⟨h.os, h.tape, h.output, h.size, fun k hk => h.block k (by omega) (fun e => by have := hs k e; omega)⟩
theorem Keeps.alloc {S : Nat → Prop} {a w : World} (h : Keeps S a w) (o : Obj) : Keeps S a (w.alloc o) :=
  ⟨h.os, h.tape, h.output, Nat.le_trans h.size (by simp), fun k hk hn => (heap_old w o k (Nat.lt_of_lt_of_le hk h.size)).trans (h.block k hk hn)⟩
theorem Keeps.setCell {S : Nat → Prop} {a w : World} (h : Keeps S a w) {p : Addr} (hp : S p.block ∨ a.heap.size ≤ p.block) (u : Value) : Keeps S a (w.setCell p u) :=
  ⟨h.os, h.tape, h.output, by simpa [World.setCell] using h.size, fun k hk hn => (Below.heap_setCell w p u k (fun e => by subst e; exact hp.elim hn (fun h => by omega))).trans (h.block k hk hn)⟩
theorem Keeps.drewN {S : Nat → Prop} {a w : World} (h : Keeps S a w) (m : Nat) : Keeps S a (w.drewN m) := ⟨h.os, h.tape, h.output, h.size, h.block⟩
theorem Blk.keeps {S : Nat → Prop} {w w' : World} {g : Nat} {t : TypeId} {cs : Array Value} (h : Blk w g t cs) (hk : Keeps S w w') (hg : ¬ S g) : Blk w' g t cs := (hk.block g h.lt hg).trans h
end Go.Proofs.Ytoecgkdipgaaeaa
/- The reader's methods Int, Bytes, Text, Left, Fault, End, Open: by contract, against a plain reader. -/
namespace Go.Proofs.Ytoecgkdipgaaeaa
open Go.RowKit

/-- The plain reader: bytes, a place, a fault. -/
structure Rd where
  l : List UInt8
  at_ : Nat
  f : Int
def Rd.step {α : Type} (r : Rd) (none : α) (x : Except Int (α × Nat)) : α × Rd :=
  if r.f = 0 then
    match x with
    | .ok (a, k) => (a, { r with at_ := r.at_ + k })
    | .error m => (none, { r with f := m })
  else (none, r)
def Rd.int (r : Rd) (low high : Int) : Int × Rd := r.step 0 (numberF low high (r.l.drop r.at_))
def Rd.take (r : Rd) (n : Nat) : Nat × Rd := r.step 0 (takeF n (r.l.drop r.at_))
def Rd.bytes (r : Rd) (most : Int) : List UInt8 × Rd := r.step [] (blockF most (r.l.drop r.at_))
theorem blockF_len {most : Int} {l p : List UInt8} {k : Nat} (h : blockF most l = .ok (p, k)) : p.length ≤ l.length ∧ k ≤ l.length := by
  unfold blockF at h
  by_cases h0 : most < 0
  · rw [if_pos h0] at h; cases h
  · rw [if_neg h0] at h
    cases hn : numberF 0 most l with
    | error e => rw [hn] at h; cases h
    | ok x =>
      obtain ⟨n, j⟩ := x
      rw [hn] at h
      simp only at h
      by_cases h1 : (l.length : Int) - j < n
      · rw [if_pos h1] at h; cases h
      · rw [if_neg h1] at h
        injection h with h
        injection h with h3 h4
        have := numberF_ok hn
        subst h3; subst h4
        refine ⟨by rw [List.length_take, List.length_drop]; omega, by omega⟩
/-- An owned row while a cell of a block of another element type is written. -/
theorem BOwns.setOther {w : World} {base b o : Nat} {v u : Value} {l : List UInt8} {t : TypeId} {cs : Array Value} (h : BOwns w base v l) (hb : Blk w b t cs) (hne : 5 ≠ t) : BOwns (w.setCell ⟨b, o, none⟩ u) base v l := by
  refine World.ownsRow.kept h (row := some b) ⟨rfl, rfl, rfl, by simp [World.setCell], fun k _ hk => Below.heap_setCell w _ u k (fun e => hk (by rw [e]))⟩ ?_
  rcases h.2 with ⟨rfl, _⟩ | ⟨g, cap, cur, rfl, _, hh, _⟩
  · exact .inl rfl
  · refine .inr (fun e => ?_)
    have : g = b := by simpa [Value.ownBlock] using e
    subst this
    unfold Blk at hb
    rw [hb] at hh
    injection hh with hh
    injection hh with _ ht
    exact hne ht.symm
theorem owns_less {w : World} {base base' : Nat} {v : Value} {l : List UInt8} (h : BOwns w base v l) (hb : base' ≤ base) : BOwns w base' v l := by
  refine ⟨h.1, ?_⟩
  rcases h.2 with h2 | ⟨g, cap, cur, hv, hg, r⟩
  · exact .inl h2
  · exact .inr ⟨g, cap, cur, hv, Nat.le_trans hb hg, r⟩

theorem drop_lt {l : List UInt8} {a b : Nat} (ha : a ≤ l.length) (h : b ≤ (l.drop a).length) : a + b ≤ l.length := by rw [List.length_drop] at h; omega

theorem foldl_push (p : List UInt8) : ∀ s : ByteArray, (p.map fun b => (b.toNat : Int)).foldl (fun r n => r.push (UInt8.ofNat n.toNat)) s = ⟨s.data ++ p.toArray⟩ := by
  induction p with
  | nil => intro s; simp
  | cons b p ih =>
    intro s
    simp only [List.map_cons, List.foldl_cons, ih, Int.toNat_natCast, UInt8.ofNat_toNat]
    congr 1
    show s.data.push b ++ p.toArray = _
    rw [Array.push_eq_append, Array.append_assoc]
    congr 1
    apply Array.ext'
    simp
/-- 'string(b)' of bytes. -/
theorem conv_text {w : World} {B : Nat} {A : Option Addr} {p : List UInt8} (h : BReads w B A p) (c : Nat) :
    (convert 29 9 (.slice A p.length c)).run Try.prog w = .ok (.string ⟨p.toArray⟩) w := by
  rw [run_convert_bytes_string w _ _ 5 A _ c Try.underlying29 Try.underlying5 Try.underlying9]
  cases A with
  | none =>
    have : p = [] := by
      rcases Nat.eq_zero_or_pos p.length with h0 | h0
      · exact List.eq_nil_of_length_eq_zero h0
      · obtain ⟨b, off, e, _⟩ := h.2 h0; cases e
    subst this
    rfl
  | some a =>
    have hf := run_firstCells_some (P := Try.prog) w 1 p.length a p.length c (bys p) h.1 (h.cells rfl)
    have hl : (loadCells a p.length).run Try.prog w = .ok (((p.map fun b => (b.toNat : Int)).map (Value.int .u8)).toArray) w := by
      have e : ((p.map fun b => (b.toNat : Int)).map (Value.int .u8)) = bys p := by simp [bys]
      rw [e]
      simpa [Builtin.firstCells] using hf
    rw [run_bytesToString w a p.length c _ hl, foldl_push]
    rw [show (ByteArray.empty.data ++ p.toArray) = p.toArray from by simp [ByteArray.empty, ByteArray.emptyWithCapacity]; rfl]
def AnsBytes (w : World) (p : List UInt8) (e : Ending) (w' : World) : Prop := ∃ v, e = .returned v ∧ BOwns w' w.heap.size v p
def AnsText (p : List UInt8) (e : Ending) (_ : World) : Prop := e = .returned (.string ⟨p.toArray⟩)
def AnsK (k : IntKind) (n : Nat) (e : Ending) (_ : World) : Prop := e = .returned (.int k n)
def AnsInt (n : Int) (e : Ending) (_ : World) : Prop := e = .returned (.int .i64 n)

theorem callFunc_enter (F : FuncId) (fn : Func) (c : Code) (hf : Try.prog.funcs[F]? = some fn) (hb : fn.body = some c) (hn : (fn.name == "runtime.NumGoroutine") = false) (caps : Array Value) (w : World) : (callFunc F caps).run Try.prog w = .ok (.enter F caps) w := by
  have hn' : ¬ fn.name = "runtime.NumGoroutine" := by simpa using hn
  simp [callFunc, hf, hb, hn']
theorem Blk.below' {w w' : World} {g : Nat} {t : TypeId} {cs : Array Value} (h : Blk w g t cs) (hb : Below w.heap.size w w') : Blk w' g t cs := h.below hb h.lt
end Go.Proofs.Ytoecgkdipgaaeaa
/- The reader's Open, Left, Fault, End: contracts; and a reader that is not there. -/
namespace Go.Proofs.Ytoecgkdipgaaeaa
open Go.RowKit

def Rd.left (r : Rd) : Int := (r.l.length : Int) - r.at_
def Rd.end_ (r : Rd) : Int := if r.f = 0 then (if 0 < r.left then 22 else 0) else r.f

theorem BOwns.keeps {S : Nat → Prop} {w w' : World} {base : Nat} {v : Value} {l : List UInt8} (h : BOwns w base v l) (hk : Keeps S w w') (hs : ∀ i, base ≤ i → ¬ S i) : BOwns w' base v l := by
  refine ⟨h.1, ?_⟩
  rcases h.2 with h2 | ⟨g, cap, cur, hv, hg, hh, r⟩
  · exact .inl h2
  · have hb : Blk w g 5 cur := hh
    exact .inr ⟨g, cap, cur, hv, hg, hb.keeps hk (hs g hg), r⟩
/-- What the call owns, read: below the blocks that w had not yet. -/
theorem BOwns.lies {w w' : World} {base n c : Nat} {A : Option Addr} {l : List UInt8} (h : BOwns w base (.slice A n c) l) (h' : BOwns w' base (.slice A n c) l) : BReads w' w.heap.size A l := by
  refine ⟨by rw [bys_length, Nat.mul_one], fun hp => ?_⟩
  rcases h.2 with ⟨_, h2⟩ | ⟨g, cap, cur, hv, hg, hh, _⟩
  · omega
  · have hlt : g < w.heap.size := by have hb : Blk w g 5 cur := hh; exact hb.lt
    obtain ⟨A', c', e, _, hr⟩ := h'.slice
    injection e with e1 _ _
    injection hv with e2 _ _
    subst e1
    obtain ⟨b, off, e3, _, hc⟩ := hr.2 hp
    rw [e2] at e3
    injection e3 with e3
    injection e3 with e4 e5
    subst e4; subst e5
    exact ⟨g, 0, e2, hlt, hc⟩

theorem BOwns.ours {w : World} {base n c : Nat} {A : Option Addr} {l : List UInt8} (h : BOwns w base (.slice A n c) l) : Ours w A l := fun hp => by
  rcases h.2 with ⟨_, h2⟩ | ⟨g, cap, cur, hv, hg, hh, _⟩
  · omega
  · injection hv with e _ _
    exact ⟨g, 0, cur, _, e, hh⟩

end Go.Proofs.Ytoecgkdipgaaeaa
/- Bytes that the call owns, written one by one. -/
namespace Go.Proofs.Ytoecgkdipgaaeaa
open Go.RowKit

/-- The block of bytes that the call owns. -/
theorem BOwns.block {w : World} {base n c : Nat} {A : Option Addr} {l : List UInt8} (h : BOwns w base (.slice A n c) l) (hp : 0 < l.length) :
    ∃ g, A = some ⟨g, 0, none⟩ ∧ base ≤ g ∧ g < w.heap.size ∧ (∀ i, w.frozen? ⟨g, i, none⟩ = false) ∧ ∀ i, (hi : i < l.length) → w.cell? ⟨g, i, none⟩ = some (.int .u8 (l[i].toNat : Int)) := by
  rcases h.2 with ⟨_, h2⟩ | ⟨g, cap, cur, hv, hg, hh, r⟩
  · omega
  · injection hv with e1 _ _
    subst e1
    have hb : Blk w g 5 cur := hh
    obtain ⟨A', c', e, _, hr⟩ := BOwns.slice h
    injection e with e2 _ _
    subst e2
    refine ⟨g, rfl, hg, hb.lt, fun i => hb.frozen i, fun i hi => ?_⟩
    obtain ⟨b, off, e3, _, hc⟩ := BReads.at_ hr hi
    injection e3 with e3
    injection e3 with e4 e5
    subst e4; subst e5
    rw [Nat.zero_add] at hc
    exact hc
theorem BOwns.store {w : World} {base g n c i : Nat} {l : List UInt8} (h : BOwns w base (.slice (some ⟨g, 0, none⟩) n c) l) (hi : i < l.length) (x : UInt8) :
    BOwns (w.setCell ⟨g, i, none⟩ (.int .u8 (x.toNat : Int))) base (.slice (some ⟨g, 0, none⟩) n c) (l.set i x) := by
  refine ⟨by rw [bys_length, Nat.mul_one], ?_⟩
  rcases h.2 with ⟨h1, h2⟩ | ⟨g', cap, cur, hv, hg, hh, hn, hcm, hs, ht⟩
  · omega
  · injection hv with e1 e2 e3
    injection e1 with e1
    injection e1 with e1 _ _
    subst e1; subst e3
    rw [List.length_set]
    refine .inr ⟨g, c, cur.setIfInBounds i (.int .u8 (x.toNat : Int)), by rw [e2], hg, ?_, hn, hcm, by simpa using hs, ?_⟩
    · have hb : Blk w g 5 cur := hh
      exact hb.set_ i _
    · rw [Nat.mul_one] at ht ⊢
      rw [Array.toList_setIfInBounds, List.take_set, ht]
      simp [bys, List.map_set]
theorem bits_u8 (op : BinOp) (a b : Int) : ∃ x : UInt8, bits op .u8 a b = (x.toNat : Int) := by
  have h : ∃ n : Int, bits op .u8 a b = IntKind.u8.wrap n := ⟨_, rfl⟩
  obtain ⟨n, hn⟩ := h
  rw [hn, IntKind.wrap_u8]
  refine ⟨UInt8.ofNat (n % 256).toNat, ?_⟩
  rw [u8_int _ (by omega)]
  omega
end Go.Proofs.Ytoecgkdipgaaeaa
/- slices.Equal of bytes, by its contract. -/
namespace Go.Proofs.Ytoecgkdipgaaeaa
open Go.RowKit

/-- The call answers the bool b and turns no memory. -/
def SaysB (w : World) (b : Bool) (e : Ending) (w' : World) : Prop := e = .returned (.bool b) ∧ ∃ m, w' = w.drewN m
theorem SaysB.out {w w' : World} {b : Bool} {e : Ending} (h : SaysB w b e w') : e = .returned (.bool b) ∧ ∃ m, w' = w.drewN m := h

theorem take_succ_eq {a b : List UInt8} {k : Nat} (ha : k < a.length) (hb : k < b.length) (h : a.take k = b.take k) (hx : a[k] = b[k]) : a.take (k + 1) = b.take (k + 1) := by
  rw [List.take_succ_eq_append_getElem ha, List.take_succ_eq_append_getElem hb, h, hx]

theorem equal_any {w : World} {B B' c c' : Nat} {A A' : Option Addr} {a b : List UInt8} (ha : BReads w B A a) (hb : BReads w B' A' b) (hl : a.length ≤ 140737488355328) :
    Calls Try.prog 39 #[.slice A a.length c, .slice A' b.length c'] w (SaysB w (decide (a = b))) := by
  by_cases hne : a.length = b.length
  · have HN := Lib.hid hne
    have h0 : ((a.length : Int) != (b.length : Int)) = false := by rw [hne]; simp
    clear hne
    go_enter Try.func39, Try.ntmps39
    go_wp2
    go_loopw [13] (fun i wr => ∃ (k m : Nat), i = .int .i64 k ∧ k ≤ a.length ∧ Hid (a.take k = b.take k) ∧ Hid (wr = w.drewN m)) (fun i _ => a.length - (intOf i).toNat)
    case atStart => exact ⟨0, 0, rfl, Nat.zero_le _, Lib.hid rfl, Lib.hid rfl⟩
    case round =>
      obtain ⟨k, m, rfl, hk, ht, hw⟩ := hrel
      have hw0 := hw.out
      subst hw0
      by_cases hlt : k < a.length
      · have hltb : k < b.length := by have := HN.out; omega
        obtain ⟨b1, o1, rfl, _, c1⟩ := ha.at_ hlt
        obtain ⟨b2, o2, rfl, _, c2⟩ := hb.at_ hltb
        have hi0 : 0 ≤ (k : Int) := by omega
        have hi1 : (k : Int) < (a.length : Int) := by omega
        have hi2 : (k : Int) < (b.length : Int) := by omega
        by_cases hx : a[k] = b[k]
        · have hv : ((a[k].toNat : Int) != (b[k].toNat : Int)) = false := by rw [hx]; simp
          have HX := Lib.hid hx
          clear hx
          go_wp2
          go_quiet (fail)
          go_wp2
          go_roundw
          case rel => exact ⟨k + 1, _, by go_num, by omega, Lib.hid (take_succ_eq hlt hltb ht.out HX.out), Lib.hid rfl⟩
          case measure => simp [intOf]; omega
        · have hv : ((a[k].toNat : Int) != (b[k].toNat : Int)) = true := by
            rw [bne_iff_ne]; intro e; exact hx (UInt8.toNat_inj.1 (by omega))
          have HX := Lib.hid hx
          clear hx
          go_wp2
          go_quiet (fail)
          go_wp2
          go_ret
          exact ⟨congrArg (fun b => Ending.returned (.bool b)) (decide_eq_false (fun e => HX.out (by simp only [e]))).symm, _, World.drewN_drewN ..⟩
      · go_wp2
        go_ret
        have hk0 : k = a.length := by omega
        have := ht.out
        rw [hk0, List.take_length] at this
        exact ⟨congrArg (fun b => Ending.returned (.bool b)) (decide_eq_true (this.trans (by rw [HN.out, List.take_length]))).symm, _, rfl⟩
  · have h0 : ((a.length : Int) != (b.length : Int)) = true := by rw [bne_iff_ne]; omega
    have HN := Lib.hid hne
    clear hne
    go_enter Try.func39, Try.ntmps39
    go_wp2
    go_ret
    exact ⟨congrArg (fun b => Ending.returned (.bool b)) (decide_eq_false (fun e => HN.out (by rw [e]))).symm, 0, rfl⟩
end Go.Proofs.Ytoecgkdipgaaeaa
/- Rows of bytes with spare room, filled and grown: words for laws on new memory. -/
namespace Go.Proofs.Ytoecgkdipgaaeaa
open Go.RowKit

theorem BOwns.keepsB {S : Nat → Prop} {w w' : World} {base : Nat} {v : Value} {l : List UInt8} (h : BOwns w base v l) (hk : Keeps S w w') (hs : ∀ k, v.ownBlock = some k → ¬ S k) : BOwns w' base v l := by
  refine ⟨h.1, ?_⟩
  rcases h.2 with h2 | ⟨g, cap, cur, hv, hg, hh, r⟩
  · exact .inl h2
  · have hb : Blk w g 5 cur := hh
    exact .inr ⟨g, cap, cur, hv, hg, hb.keeps hk (hs g (by rw [hv]; rfl)), r⟩
theorem BOwns.lt {w : World} {base : Nat} {v : Value} {l : List UInt8} (h : BOwns w base v l) {k : Nat} (hk : v.ownBlock = some k) : base ≤ k ∧ k < w.heap.size := by
  rcases h.2 with ⟨h2, _⟩ | ⟨g, cap, cur, hv, hg, hh, r⟩
  · rw [h2] at hk; cases hk
  · have hb : Blk w g 5 cur := hh
    rw [hv] at hk
    injection hk with hk
    subst hk
    exact ⟨hg, hb.lt⟩
theorem BOwns.reads {w : World} {base n c : Nat} {A : Option Addr} {l : List UInt8} (h : BOwns w base (.slice A n c) l) : BReads w w.heap.size A l := by
  obtain ⟨A', c', e, _, hr⟩ := BOwns.slice h
  injection e with e1
  subst e1
  exact hr
theorem own_block {g n c : Nat} : (Value.slice (some ⟨g, 0, none⟩) n c).ownBlock = some g := rfl
/-- What a row has come to while it is filled. -/
def fillL (x : UInt8) (i : Nat) (l : List UInt8) : List UInt8 := List.replicate i x ++ l.drop i
theorem fillL_length {x : UInt8} {i : Nat} {l : List UInt8} (h : i ≤ l.length) : (fillL x i l).length = l.length := by
  unfold fillL; rw [List.length_append, List.length_replicate, List.length_drop]; omega
theorem fillL_zero (x : UInt8) (l : List UInt8) : fillL x 0 l = l := rfl
theorem fillL_full (x : UInt8) (l : List UInt8) : fillL x l.length l = List.replicate l.length x := by
  unfold fillL; rw [List.drop_length, List.append_nil]
theorem fillL_set {x : UInt8} {i : Nat} {l : List UInt8} (h : i < l.length) : (fillL x i l).set i x = fillL x (i + 1) l := by
  unfold fillL
  rw [List.set_append_right _ _ (by simp), List.length_replicate, Nat.sub_self, List.drop_eq_getElem_cons h, List.set_cons_zero, List.replicate_succ', List.append_assoc]
  rfl
theorem bowns_len {w : World} {base n c : Nat} {A : Option Addr} {l : List UInt8} (h : BOwns w base (.slice A n c) l) : n = l.length := by
  obtain ⟨A', c', e, _, _⟩ := BOwns.slice h; injection e
/-- A row while a byte of it is written. -/
theorem fill_step {w0 w : World} {base n c i : Nat} {A : Option Addr} {l : List UInt8} {x : UInt8} {m : Int} (h : BOwns w base (.slice A n c) (fillL x i l)) (hi : i < l.length) (hm : m = (x.toNat : Int)) (hk : Keeps (fun k => some k = (Value.slice A n c).ownBlock) w0 w) :
    ∃ g u, A = some ⟨g, 0, none⟩ ∧ w.frozen? ⟨g, i, none⟩ = false ∧ w.cell? ⟨g, i, none⟩ = some u ∧ Hid (BOwns (w.setCell ⟨g, i, none⟩ (.int .u8 m)) base (.slice A n c) (fillL x (i + 1) l)) ∧
      Hid (Keeps (fun k => some k = (Value.slice A n c).ownBlock) w0 (w.setCell ⟨g, i, none⟩ (.int .u8 m))) := by
  have hl := fillL_length (x := x) (l := l) (Nat.le_of_lt hi)
  have hn := bowns_len h
  obtain ⟨g, rfl, h1, h2, h3, h4⟩ := BOwns.block h (by omega)
  subst hm
  have hs := BOwns.store h (i := i) (by omega) x
  rw [fillL_set hi] at hs
  exact ⟨g, _, rfl, h3 i, h4 i (by omega), Lib.hid hs, Lib.hid (hk.setCell (p := ⟨g, i, none⟩) (.inl rfl) _)⟩
/-- A row of the call's own that grows by one byte. -/
structure Grows (w0 w : World) (base : Nat) (row : Option Nat) (v : Value) (l : List UInt8) : Prop where
  own : BOwns w base v l
  grown : w0.grownBy w row
  from_ : OwnFrom w0 row v
  le : base ≤ w0.heap.size
theorem Grows.start {w : World} {base : Nat} {v : Value} {l : List UInt8} (h : BOwns w base v l) (hb : base ≤ w.heap.size) : Grows w w base v.ownBlock v l := ⟨h, World.grownBy.refl _ _, .inl rfl, hb⟩
theorem Grows.step {w0 w w1 : World} {base : Nat} {row : Option Nat} {v v' : Value} {l : List UInt8} {o : Obj} {m : List UInt8} (h : Grows w0 w base row v l) (ho : BOwns w1 base v' (l ++ m)) (hg : (w.alloc o).grownBy w1 v.ownBlock) (hf : v'.ownBlock = v.ownBlock ∨ v'.ownBlock = some (w.alloc o).heap.size) : Grows w0 w1 base row v' (l ++ m) :=
  ⟨ho, grown_step (grown_alloc h.grown _) h.from_ hg, OwnFrom.step h.from_ (by have := h.grown.size; simp; omega) hf, h.le⟩
theorem Grows.keeps {w0 w : World} {base : Nat} {row : Option Nat} {v : Value} {l : List UInt8} (h : Grows w0 w base row v l) : Keeps (fun k => some k = row) w0 w := Keeps.of_grown h.grown
theorem Grows.far {w0 w : World} {base : Nat} {row : Option Nat} {v : Value} {l : List UInt8} (h : Grows w0 w base row v l) {k : Nat} (hk : k < w0.heap.size) (hr : row ≠ some k) : v.ownBlock ≠ some k := fun e => by
  rcases h.from_ with h1 | h1
  · exact hr (h1.symm.trans e)
  · have := h1 k e; omega
theorem rep_snoc (l : List UInt8) (K : Nat) (x : UInt8) : l ++ List.replicate K x ++ [x] = l ++ List.replicate (K + 1) x := by
  rw [List.append_assoc, List.replicate_succ']

/-- Rows of the call's own, each in a block of its own. -/
structure Rws (w0 w : World) (rs : List (Value × List UInt8)) : Prop where
  own : ∀ r ∈ rs, BOwns w w0.heap.size r.1 r.2
  sep : rs.Pairwise fun a b => ∀ k, a.1.ownBlock = some k → b.1.ownBlock ≠ some k
  bel : Below w0.heap.size w0 w
section
variable {w0 w w' : World} {rs : List (Value × List UInt8)} {v v' u : Value} {l l' m : List UInt8}
theorem Rws.nil (h : Below w0.heap.size w0 w) : Rws w0 w [] := ⟨fun _ h => (by cases h), List.Pairwise.nil, h⟩
theorem Rws.go (h : Rws w0 w rs) (hb : Below w.heap.size w w') : Rws w0 w' rs := ⟨fun r hr => (h.own r hr).below hb, h.sep, h.bel.trans (hb.mono h.bel.size)⟩
theorem Rws.new (h : Rws w0 w rs) (ho : BOwns w' w.heap.size v l) (hb : Below w.heap.size w w') : Rws w0 w' ((v, l) :: rs) := by
  refine ⟨fun r hr => ?_, List.pairwise_cons.2 ⟨fun r hr k e1 e2 => ?_, h.sep⟩, h.bel.trans (hb.mono h.bel.size)⟩
  · rcases List.mem_cons.1 hr with rfl | hr
    · exact owns_less ho h.bel.size
    · exact (h.own r hr).below hb
  · have := (ho.lt e1).1; have := ((h.own r hr).lt e2).2; omega
theorem Rws.swap (h : Rws w0 w ((v, l) :: (u, m) :: rs)) : Rws w0 w ((u, m) :: (v, l) :: rs) := by
  have h1 := List.pairwise_cons.1 h.sep
  have h2 := List.pairwise_cons.1 h1.2
  refine ⟨fun r hr => h.own r (by simp only [List.mem_cons] at hr ⊢; rcases hr with h | h | h <;> simp [h]), List.pairwise_cons.2 ⟨fun r hr k e1 e2 => ?_, List.pairwise_cons.2 ⟨fun r hr => h1.1 r (List.mem_cons_of_mem _ hr), h2.2⟩⟩, h.bel⟩
  rcases List.mem_cons.1 hr with rfl | hr
  · exact h1.1 _ (List.mem_cons_self ..) k e2 e1
  · exact h2.1 r hr k e1 e2
theorem Rws.rot3 {x : Value} {lx : List UInt8} (h : Rws w0 w ((v, l) :: (u, m) :: (x, lx) :: rs)) : Rws w0 w ((x, lx) :: (v, l) :: (u, m) :: rs) := by
  have h1 := List.pairwise_cons.1 h.sep
  have h2 := List.pairwise_cons.1 h1.2
  have h3 := List.pairwise_cons.1 h2.2
  refine ⟨fun r hr => h.own r (by simp only [List.mem_cons] at hr ⊢; rcases hr with h | h | h | h <;> simp [h]), List.pairwise_cons.2 ⟨fun r hr k e1 e2 => ?_, List.pairwise_cons.2 ⟨fun r hr k e1 e2 => ?_, List.pairwise_cons.2 ⟨fun r hr => h2.1 r (List.mem_cons_of_mem _ hr), h3.2⟩⟩⟩, h.bel⟩
  · rcases List.mem_cons.1 hr with rfl | hr
    · exact h1.1 _ (by simp) k e2 e1
    · rcases List.mem_cons.1 hr with rfl | hr
      · exact h2.1 _ (by simp) k e2 e1
      · exact h3.1 r hr k e1 e2
  · rcases List.mem_cons.1 hr with rfl | hr
    · exact h1.1 _ (by simp) k e1 e2
    · exact h1.1 r (by simp [hr]) k e1 e2
theorem Rws.tail (h : Rws w0 w ((v, l) :: rs)) : Rws w0 w rs := ⟨fun r hr => h.own r (List.mem_cons_of_mem _ hr), (List.pairwise_cons.1 h.sep).2, h.bel⟩
theorem Rws.turn (h : Rws w0 w ((v, l) :: rs)) (ho : BOwns w' w0.heap.size v' l') (hk : Keeps (fun k => some k = v.ownBlock) w w') (hne : ∀ k, v'.ownBlock = some k → ∀ r ∈ rs, r.1.ownBlock ≠ some k) : Rws w0 w' ((v', l') :: rs) := by
  have h1 := List.pairwise_cons.1 h.sep
  refine ⟨fun r hr => ?_, List.pairwise_cons.2 ⟨fun r hr k e => hne k e r hr, h1.2⟩, h.bel.trans (hk.below h.bel.size (fun i hi => ((h.own _ (List.mem_cons_self ..)).lt hi.symm).1))⟩
  rcases List.mem_cons.1 hr with rfl | hr
  · exact ho
  · exact (h.own r (List.mem_cons_of_mem _ hr)).keepsB hk (fun k e e' => h1.1 r hr k e'.symm e)
theorem Rws.head (h : Rws w0 w ((v, l) :: rs)) : BOwns w w0.heap.size v l := h.own _ (List.mem_cons_self ..)
theorem Rws.fill (h : Rws w0 w ((v, l) :: rs)) (ho : BOwns w' w0.heap.size v l') (hk : Keeps (fun k => some k = v.ownBlock) w w') : Rws w0 w' ((v, l') :: rs) :=
  h.turn ho hk fun k e r hr => (List.pairwise_cons.1 h.sep).1 r hr k e
theorem Rws.grow (h : Rws w0 w ((v, l) :: rs)) (hg : Grows w w' w0.heap.size v.ownBlock v' l') : Rws w0 w' ((v', l') :: rs) :=
  h.turn hg.own hg.keeps fun k e r hr e2 => hg.far ((h.own r (List.mem_cons_of_mem _ hr)).lt e2).2 (fun e3 => (List.pairwise_cons.1 h.sep).1 r hr k e3 e2) e
theorem Rws.turnBlk {g : Nat} {t : TypeId} {cs : Array Value} (h : Rws w0 w rs) (hb : Blk w g t cs) (ht : 5 ≠ t) (hk : Keeps (fun k => k = g) w w') (hg : w0.heap.size ≤ g) : Rws w0 w' rs :=
  ⟨fun r hr => (h.own r hr).keepsB hk (fun k e e' => by
    subst e'
    rcases (h.own r hr).2 with ⟨h2, _⟩ | ⟨g', cap, cur, hv, _, hh, _⟩
    · rw [h2] at e; cases e
    · rw [hv] at e
      have e' : g' = k := Option.some.inj e
      subst e'
      unfold Blk at hb
      rw [hb] at hh
      injection hh with hh
      injection hh with _ hh
      exact ht hh.symm), h.sep, h.bel.trans (hk.below h.bel.size (fun i hi => by omega))⟩
/-- A block of another type stays while a row is written. -/
theorem Rws.blk {g : Nat} {t : TypeId} {cs : Array Value} (h : BOwns w w0.heap.size v l) (hb : Blk w g t cs) (ht : 5 ≠ t) (hk : Keeps (fun k => some k = v.ownBlock) w w') : Blk w' g t cs := by
  refine hb.keeps hk fun e => ?_
  rcases h.2 with ⟨h2, _⟩ | ⟨g', cap, cur, hv, hg, hh, r⟩
  · rw [h2] at e; cases e
  · rw [hv] at e
    have e' : g = g' := Option.some.inj e
    subst e'
    unfold Blk at hb
    rw [hb] at hh
    injection hh with hh
    injection hh with _ hh
    exact ht hh.symm
end

end Go.Proofs.Ytoecgkdipgaaeaa
/- Pieces of memory that lie apart: blocks, rows of bytes, and what is made of them. -/
namespace Go.Proofs.Ytoecgkdipgaaeaa
open Go.RowKit

/-- A piece of memory: its blocks, and what they hold. -/
structure Item where
  own : Nat → Prop
  P : World → Prop
  keep : ∀ {w w' : World}, P w → (∀ k, own k → w'.heap[k]? = w.heap[k]?) → P w'
  lt : ∀ {w : World} {k : Nat}, P w → own k → k < w.heap.size
def Item.blk (g : Nat) (t : TypeId) (cs : Array Value) : Item where
  own := fun k => k = g
  P := fun w => Blk w g t cs
  keep := fun h hk => (hk g rfl).trans h
  lt := fun h e => by subst e; exact Blk.lt h
def Item.row (v : Value) (l : List UInt8) : Item where
  own := fun k => v.ownBlock = some k
  P := fun w => BOwns w 0 v l
  keep := fun {w w'} h hk => by
    refine ⟨h.1, ?_⟩
    rcases h.2 with h2 | ⟨g, cap, cur, hv, hb, hh, r⟩
    · exact .inl h2
    · exact .inr ⟨g, cap, cur, hv, hb, (hk g (by rw [hv]; rfl)).trans hh, r⟩
  lt := fun h e => (h.lt e).2
/-- Pieces that lie apart. -/
def Item.all (L : List Item) : Item where
  own := fun k => ∃ i ∈ L, i.own k
  P := fun w => (∀ i ∈ L, i.P w) ∧ L.Pairwise fun (a b : Item) => ∀ k : Nat, a.own k → ¬ b.own k
  keep := fun h hk => ⟨fun i hi => i.keep (h.1 i hi) fun k ho => hk k ⟨i, hi, ho⟩, h.2⟩
  lt := fun h ⟨i, hi, ho⟩ => i.lt (h.1 i hi) ho
theorem Item.go {x : Item} {w w' : World} (h : x.P w) (hb : Below w.heap.size w w') : x.P w' := x.keep h fun k hk => hb.block k (x.lt h hk)
theorem Item.far {x : Item} {w w' : World} {S : Nat → Prop} (h : x.P w) (hk : Keeps S w w') (hs : ∀ k, x.own k → ¬ S k) : x.P w' := x.keep h fun k ho => hk.block k (x.lt h ho) (hs k ho)
/-- A piece has become another one; nothing else was written. -/
structure Turn (x : Item) (w : World) (y : Item) (w' : World) : Prop where
  p : y.P w'
  k : Keeps x.own w w'
  o : ∀ k, y.own k → x.own k ∨ w.heap.size ≤ k
section
variable {x y z a b : Item} {w w' w'' : World} {L M : List Item}
theorem Turn.refl (h : x.P w) : Turn x w x w := ⟨h, Keeps.refl _ _, fun _ h => .inl h⟩
theorem Turn.trans (h : Turn x w y w') (h' : Turn y w' z w'') : Turn x w z w'' :=
  ⟨h'.p, h.k.trans h'.k (fun i hi => h.o i hi), fun k hk => by
    rcases h'.o k hk with h1 | h1
    · exact h.o k h1
    · exact .inr (Nat.le_trans h.k.size h1)⟩
theorem Turn.go (h : Turn x w y w') (hb : Below w'.heap.size w' w'') : Turn x w y w'' :=
  ⟨Item.go h.p hb, h.k.trans (Keeps.of_below hb (fun _ => False)) (fun _ h => h.elim), h.o⟩
theorem Turn.pre (hb : Below w.heap.size w w') (h : Turn x w' y w'') : Turn x w y w'' :=
  ⟨h.p, (Keeps.of_below hb x.own).trans h.k (fun i hi => .inl hi), fun k hk => by
    rcases h.o k hk with h1 | h1
    · exact .inl h1
    · exact .inr (Nat.le_trans hb.size h1)⟩
theorem Turn.below {B : Nat} (h : Turn x w y w') (hB : B ≤ w.heap.size) (ho : ∀ k, x.own k → B ≤ k) : Below B w w' := h.k.below hB ho
theorem Item.all_get (h : (Item.all L).P w) (hx : x ∈ L) : x.P w := h.1 x hx
theorem Item.all_perm (h : (Item.all L).P w) (hp : L.Perm M) : (Item.all M).P w :=
  ⟨fun i hi => h.1 i (hp.mem_iff.2 hi), hp.pairwise h.2 (fun {a b} hab k hb ha => hab k ha hb)⟩
/-- A piece more, all of it new. -/
theorem Item.all_add (h : (Item.all L).P w) (hb : Below w.heap.size w w') (hy : y.P w') (ho : ∀ k, y.own k → w.heap.size ≤ k) : (Item.all (y :: L)).P w' :=
  ⟨fun i hi => by
    rcases List.mem_cons.1 hi with rfl | hi
    · exact hy
    · exact Item.go (h.1 i hi) hb, List.pairwise_cons.2 ⟨fun i hi k h1 h2 => by have := ho k h1; have := i.lt (h.1 i hi) h2; omega, h.2⟩⟩
/-- The first of the pieces has become another one. -/
theorem Item.all_head (h : (Item.all (x :: L)).P w) (t : Turn x w y w') : (Item.all (y :: L)).P w' := by
  have h1 := List.pairwise_cons.1 h.2
  have hx : ∀ i ∈ L, i.P w := fun i hi => h.1 i (List.mem_cons_of_mem _ hi)
  refine ⟨fun i hi => ?_, List.pairwise_cons.2 ⟨fun i hi k hk hk2 => ?_, h1.2⟩⟩
  · rcases List.mem_cons.1 hi with rfl | hi
    · exact t.p
    · exact Item.far (hx i hi) t.k fun k hk hk2 => h1.1 i hi k hk2 hk
  · rcases t.o k hk with h2 | h2
    · exact h1.1 i hi k h2 hk2
    · have := i.lt (hx i hi) hk2; omega
theorem Turn.head (h : (Item.all (x :: L)).P w) (t : Turn x w y w') : Turn (Item.all (x :: L)) w (Item.all (y :: L)) w' :=
  ⟨Item.all_head h t, t.k.mono (fun i hi => .inl ⟨x, List.mem_cons_self .., hi⟩), fun k ⟨i, hi, hk⟩ => by
    rcases List.mem_cons.1 hi with rfl | hi
    · rcases t.o k hk with h1 | h1
      · exact .inl ⟨x, List.mem_cons_self .., h1⟩
      · exact .inr h1
    · exact .inl ⟨i, List.mem_cons_of_mem _ hi, hk⟩⟩
theorem Turn.second (h : (Item.all (a :: x :: L)).P w) (t : Turn x w y w') : Turn (Item.all (a :: x :: L)) w (Item.all (a :: y :: L)) w' := by
  have hp := Item.all_perm h (List.Perm.swap x a L)
  have t1 := Turn.head hp t
  exact ⟨Item.all_perm t1.p (List.Perm.swap a y L), t1.k.mono (fun i ⟨j, hj, hk⟩ => .inl ⟨j, (List.Perm.swap x a L).mem_iff.2 hj, hk⟩), fun k ⟨i, hi, hk⟩ => by
    rcases t1.o k ⟨i, (List.Perm.swap a y L).mem_iff.2 hi, hk⟩ with ⟨j, hj, h2⟩ | h2
    · exact .inl ⟨j, (List.Perm.swap x a L).mem_iff.2 hj, h2⟩
    · exact .inr h2⟩
theorem Turn.new (h : (Item.all L).P w) (hb : Below w.heap.size w w') (hy : y.P w') (ho : ∀ k, y.own k → w.heap.size ≤ k) : Turn (Item.all L) w (Item.all (y :: L)) w' :=
  ⟨Item.all_add h hb hy ho, Keeps.of_below hb _, fun k ⟨i, hi, hk⟩ => by
    rcases List.mem_cons.1 hi with rfl | hi
    · exact .inr (ho k hk)
    · exact .inl ⟨i, hi, hk⟩⟩
theorem Turn.drop (h : Turn x w (Item.all (y :: L)) w') : Turn x w (Item.all L) w' :=
  ⟨⟨fun i hi => h.p.1 i (List.mem_cons_of_mem _ hi), (List.pairwise_cons.1 h.p.2).2⟩, h.k, fun k ⟨i, hi, hk⟩ => h.o k ⟨i, List.mem_cons_of_mem _ hi, hk⟩⟩
/-- The same with the pieces in another order. -/
theorem Turn.perm (h : Turn (Item.all L) w y w') (hp : L.Perm M) : Turn (Item.all M) w y w' :=
  ⟨h.p, h.k.mono (fun i ⟨j, hj, hk⟩ => .inl ⟨j, hp.mem_iff.1 hj, hk⟩), fun k hk => by
    rcases h.o k hk with ⟨j, hj, h2⟩ | h2
    · exact .inl ⟨j, hp.mem_iff.1 hj, h2⟩
    · exact .inr h2⟩
theorem Turn.permR (h : Turn x w (Item.all L) w') (hp : L.Perm M) : Turn x w (Item.all M) w' :=
  ⟨Item.all_perm h.p hp, h.k, fun k ⟨j, hj, hk⟩ => h.o k ⟨j, hp.mem_iff.2 hj, hk⟩⟩
/-- One of the pieces has become another one. -/
theorem Turn.set {i : Nat} (h : (Item.all L).P w) (hi : L[i]? = some x) (t : Turn x w y w') : Turn (Item.all L) w (Item.all (L.set i y)) w' := by
  obtain ⟨hlt, he⟩ := List.getElem?_eq_some_iff.1 hi
  have e1 : L = L.take i ++ x :: L.drop (i + 1) := by rw [← he, ← List.drop_eq_getElem_cons hlt, List.take_append_drop]
  have e2 : L.set i y = L.take i ++ y :: L.drop (i + 1) := by rw [List.set_eq_take_append_cons_drop, if_pos hlt]
  rw [e2]
  have p1 : L.Perm (x :: (L.take i ++ L.drop (i + 1))) := by
    have := List.perm_middle (a := x) (l₁ := L.take i) (l₂ := L.drop (i + 1))
    rwa [← e1] at this
  have hp := Item.all_perm h p1
  exact ((Turn.head hp t).perm p1.symm).permR (List.perm_middle (a := y) (l₁ := L.take i) (l₂ := L.drop (i + 1))).symm
theorem Turn.wide (h : Turn x w y w') (hz : z.P w) (ho : ∀ k, x.own k → z.own k) (hy : ∀ k, y.own k → z.own k ∨ w.heap.size ≤ k) : Turn z w y w' :=
  ⟨h.p, h.k.mono (fun i hi => .inl (ho i hi)), hy⟩
/-- A cell of a block is written. -/
theorem Turn.cell {g : Nat} {t : TypeId} {cs : Array Value} (h : Blk w g t cs) (i : Nat) (u : Value) : Turn (Item.blk g t cs) w (Item.blk g t (cs.setIfInBounds i u)) (w.setCell ⟨g, i, none⟩ u) :=
  ⟨h.set_ i u, (Keeps.refl (fun k => k = g) w).setCell (p := ⟨g, i, none⟩) (.inl rfl) u, fun k hk => .inl hk⟩
/-- A row of bytes has become another one. -/
theorem Turn.row {v v' : Value} {l l' : List UInt8} {base : Nat} (ho : BOwns w' base v' l') (hk : Keeps (fun k => some k = v.ownBlock) w w') (hf : v'.ownBlock = v.ownBlock ∨ ∀ k, v'.ownBlock = some k → w.heap.size ≤ k) :
    Turn (Item.row v l) w (Item.row v' l') w' :=
  ⟨owns_less ho (Nat.zero_le _), hk.mono (fun i hi => .inl hi.symm), fun k hk => by
    rcases hf with h | h
    · exact .inl (h.symm.trans hk)
    · exact .inr (h k hk)⟩
end
end Go.Proofs.Ytoecgkdipgaaeaa
