/- Contracts and plain laws that this claim leans on, laid together: Rdr5, Rdr8, Own, Equal, Rws, Mem, Inv. -/
import Derived.Test.YtnnladfndmdapaaG02
import Derived.Test.YtnnladfndmdapaaG01
import Derived.Deep.QuietTactic
import Derived.BigQuiet
set_option linter.all false
set_option linter.unusedVariables false
set_option linter.unusedSimpArgs false
set_option linter.unnecessarySimpa false
/- The reader's methods Int, Bytes, Text, Left, Fault, End, Open: by contract, against a plain reader. -/
namespace Go.Proofs.Ytnnladfndmdapaa
open Go.RowKit

/-- The plain reader: bytes, a place, a fault. -/
structure Rd where
  l : List UInt8
  at_ : Nat
  f : Int
def Rd.step {α : Type} (r : Rd) (none : α) (x : Except Int (α × Nat)) : α × Rd :=
  if r.f = 0 then
    match x with
    | .ok (a, k) => (a, { r with at_ := r.at_ + k })
    | .error m => (none, { r with f := m })
  else (none, r)
def Rd.int (r : Rd) (low high : Int) : Int × Rd := r.step 0 (numberF low high (r.l.drop r.at_))
def Rd.take (r : Rd) (n : Nat) : Nat × Rd := r.step 0 (takeF n (r.l.drop r.at_))
def Rd.bytes (r : Rd) (most : Int) : List UInt8 × Rd := r.step [] (blockF most (r.l.drop r.at_))
theorem blockF_len {most : Int} {l p : List UInt8} {k : Nat} (h : blockF most l = .ok (p, k)) : p.length ≤ l.length ∧ k ≤ l.length := by
  unfold blockF at h
  by_cases h0 : most < 0
  · rw [if_pos h0] at h; cases h
  · rw [if_neg h0] at h
    cases hn : numberF 0 most l with
    | error e => rw [hn] at h; cases h
    | ok x =>
      obtain ⟨n, j⟩ := x
      rw [hn] at h
      simp only at h
      by_cases h1 : (l.length : Int) - j < n
      · rw [if_pos h1] at h; cases h
      · rw [if_neg h1] at h
        injection h with h
        injection h with h3 h4
        have := numberF_ok hn
        subst h3; subst h4
        refine ⟨by rw [List.length_take, List.length_drop]; omega, by omega⟩
/-- An owned row while a cell of a block of another element type is written. -/
theorem BOwns.setOther {w : World} {base b o : Nat} {v u : Value} {l : List UInt8} {t : TypeId} {cs : Array Value} (h : BOwns w base v l) (hb : Blk w b t cs) (hne : 5 ≠ t) : BOwns (w.setCell ⟨b, o, none⟩ u) base v l := by
  refine World.ownsRow.kept h (row := some b) ⟨rfl, rfl, rfl, by simp [World.setCell], fun k _ hk => Below.heap_setCell w _ u k (fun e => hk (by rw [e]))⟩ ?_
  rcases h.2 with ⟨rfl, _⟩ | ⟨g, cap, cur, rfl, _, hh, _⟩
  · exact .inl rfl
  · refine .inr (fun e => ?_)
    have : g = b := by simpa [Value.ownBlock] using e
    subst this
    unfold Blk at hb
    rw [hb] at hh
    injection hh with hh
    injection hh with _ ht
    exact hne ht.symm
theorem owns_less {w : World} {base base' : Nat} {v : Value} {l : List UInt8} (h : BOwns w base v l) (hb : base' ≤ base) : BOwns w base' v l := by
  refine ⟨h.1, ?_⟩
  rcases h.2 with h2 | ⟨g, cap, cur, hv, hg, r⟩
  · exact .inl h2
  · exact .inr ⟨g, cap, cur, hv, Nat.le_trans hb hg, r⟩

/-- Block g of w is the reader r. -/
def RdIs (w : World) (g : Nat) (r : Rd) : Prop := ∃ A c, RdAt w g A c r.l r.at_ r.f
theorem RdIs.keeps {S : Nat → Prop} {w w' : World} {g : Nat} {r : Rd} (h : RdIs w g r) (hk : Keeps S w w') (hs : ∀ i, S i → g < i) : RdIs w' g r := by
  obtain ⟨A, c, h⟩ := h; exact ⟨A, c, h.keeps hk hs⟩
theorem RdIs.keepsO {S : Nat → Prop} {w w' : World} {g : Nat} {r : Rd} (h : RdIs w g r) (hk : Keeps S w w') (hs : ∀ i, S i → i ≠ g ∧ (g < i ∨ ∃ t cs, Blk w i t cs ∧ 5 ≠ t)) : RdIs w' g r := by
  obtain ⟨A, c, h⟩ := h; exact ⟨A, c, h.keepsO hk hs⟩
theorem RdIs.lt {w : World} {g : Nat} {r : Rd} (h : RdIs w g r) : g < w.heap.size := by obtain ⟨A, c, h⟩ := h; exact h.blk.lt
theorem RdIs.below {w w' : World} {g : Nat} {r : Rd} (h : RdIs w g r) (hb : Below w.heap.size w w') : RdIs w' g r := h.keeps (Keeps.of_below hb (fun _ => False)) (fun _ h => h.elim)
theorem drop_lt {l : List UInt8} {a b : Nat} (ha : a ≤ l.length) (h : b ≤ (l.drop a).length) : a + b ≤ l.length := by rw [List.length_drop] at h; omega

theorem int1_any {w : World} {g br bl bh bn : Nat} {A : Option Addr} {c : Nat} {l : List UInt8} {at_ : Nat} {low high : Int} (HR : RdAt w g A c l at_ 0)
    (h1 : Blk w br 99 #[.pointer (some ⟨g, 0, none⟩)]) (h2 : Blk w bl 3 #[.int .i64 low]) (h3 : Blk w bh 3 #[.int .i64 high]) (h4 : Blk w bn 3 #[.int .i64 0]) (hgn : g < bn) :
    Calls Try.prog 98 #[.pointer (some ⟨br, 0, none⟩), .pointer (some ⟨bl, 0, none⟩), .pointer (some ⟨bh, 0, none⟩), .pointer (some ⟨bn, 0, none⟩)] w fun e w2 => Keeps (fun k => k = g ∨ k = bn) w w2 ∧
      (e = .returned (.tuple #[]) ∧ (∃ n k, numberF low high (l.drop at_) = .ok (n, k) ∧ Blk w2 bn 3 #[.int .i64 n] ∧ RdAt w2 g A c l (at_ + k) 0) ∨
        ∃ m, e = gaveUp m ∧ (numberF low high (l.drop at_) = .error m ∧ Blk w2 bn 3 #[.int .i64 0]) ∧ ∃ at', RdAt w2 g A c l at' 0) := by
  have c1 := h1.cell 0
  have c2 := h2.cell 0
  have c3 := h3.cell 0
  simp at c1 c2 c3
  have H4 := Lib.hid h4
  have H := Lib.hid HR
  have HG := Lib.hid hgn
  clear HR h1 h2 h3 h4 hgn
  go_enter Try.func98, Try.ntmps98
  go_wp2_with fail
  refine (number_any H.out low high).mono ?_
  rintro e w1 ⟨hg, hr⟩
  have K1 := Lib.hid (Keeps.of_grown hg)
  have H5 := Lib.hid (H4.out.keeps K1.out (fun e => by have := HG.out; injection e with e; omega))
  clear hg
  cases hn : numberF low high (l.drop at_) with
  | error m =>
    rw [hn] at hr
    obtain ⟨rfl, at', hr'⟩ := hr
    have R1 := Lib.hid hr'
    have HN := Lib.hid hn
    clear hr' hn
    unfold gaveUp
    go_wp2
    exact ⟨rfl, K1.out.mono (fun i h => .inl (.inl (by injection h))), .inr ⟨m, rfl, ⟨HN.out, H5.out⟩, at', R1.out⟩⟩
  | ok x =>
    obtain ⟨n, k⟩ := x
    rw [hn] at hr
    obtain ⟨rfl, hr'⟩ := hr
    have R1 := Lib.hid hr'
    have c4 := H5.out.cell 0
    have f4 := H5.out.frozen 0
    simp at c4
    have HN := Lib.hid hn
    clear hr' hn
    go_wp2
    go_end0
    refine ⟨(K1.out.mono (fun i h => .inl (.inl (by injection h)))).setCell (.inl (.inr rfl)) _, .inl ⟨rfl, n, k, HN.out, ?_, R1.out.keeps ((Keeps.refl (fun i => i = bn) w1).setCell (.inl rfl) _) (fun i h => by have := HG.out; omega)⟩⟩
    have := H5.out.set_ 0 (.int .i64 n)
    simpa using this

theorem bytes1_any {w : World} {g br bm bb : Nat} {A : Option Addr} {c : Nat} {l : List UInt8} {at_ : Nat} {most : Int} (HR : RdAt w g A c l at_ 0)
    (h1 : Blk w br 99 #[.pointer (some ⟨g, 0, none⟩)]) (h2 : Blk w bm 3 #[.int .i64 most]) (h4 : Blk w bb 23 #[.slice none 0 0]) (hgn : g < bb) :
    Calls Try.prog 100 #[.pointer (some ⟨br, 0, none⟩), .pointer (some ⟨bm, 0, none⟩), .pointer (some ⟨bb, 0, none⟩)] w fun e w2 => Keeps (fun k => k = g ∨ k = bb) w w2 ∧
      (e = .returned (.tuple #[]) ∧ (∃ p k, blockF most (l.drop at_) = .ok (p, k) ∧ (∃ v, Blk w2 bb 23 #[v] ∧ BOwns w2 w.heap.size v p) ∧ RdAt w2 g A c l (at_ + k) 0) ∨
        ∃ m, e = gaveUp m ∧ (blockF most (l.drop at_) = .error m ∧ Blk w2 bb 23 #[.slice none 0 0]) ∧ ∃ at', RdAt w2 g A c l at' 0) := by
  have c1 := h1.cell 0
  have c2 := h2.cell 0
  simp at c1 c2
  have H4 := Lib.hid h4
  have H := Lib.hid HR
  have HG := Lib.hid hgn
  clear HR h1 h2 h4 hgn
  go_enter Try.func100, Try.ntmps100
  go_wp2_with fail
  refine (block_any H.out most).mono ?_
  rintro e w1 ⟨hg, hr⟩
  have K1 := Lib.hid (Keeps.of_grown hg)
  have H5 := Lib.hid (H4.out.keeps K1.out (fun e => by have := HG.out; injection e with e; omega))
  clear hg
  cases hn : blockF most (l.drop at_) with
  | error m =>
    rw [hn] at hr
    obtain ⟨rfl, at', hr'⟩ := hr
    have R1 := Lib.hid hr'
    have HN := Lib.hid hn
    clear hr' hn
    unfold gaveUp
    go_wp2
    exact ⟨rfl, K1.out.mono (fun i h => .inl (.inl (by injection h))), .inr ⟨m, rfl, ⟨HN.out, H5.out⟩, at', R1.out⟩⟩
  | ok x =>
    obtain ⟨p, k⟩ := x
    rw [hn] at hr
    obtain ⟨A', c', rfl, hp, hr'⟩ := hr
    have R1 := Lib.hid hr'
    have P1 := Lib.hid hp
    have HN := Lib.hid hn
    have hle : p.length ≤ 140737488355328 := by
      have e0 := (blockF_len hn).1
      have := H.out.small; rw [List.length_drop] at e0; omega
    clear hr' hn hp
    go_wp2_with fail
    refine (own_any P1.out hle).mono ?_
    rintro e w3 h
    obtain ⟨L, A2, c2', rfl, EL, O2, _, B2⟩ := h.named
    have H6 := Lib.hid (H5.out.below B2.out H5.out.lt)
    have c4 := H6.out.cell 0
    have f4 := H6.out.frozen 0
    simp at c4
    clear h hle
    go_wp2
    go_end0
    have KB := Keeps.of_below B2.out (fun _ => False)
    refine ⟨((K1.out.mono (fun i h => .inl (.inl (by injection h)))).trans KB (fun _ h => h.elim)).setCell (.inl (.inr rfl)) _, .inl ⟨rfl, p, k, HN.out, ⟨.slice A2 L.length c2', ?_, ?_⟩, (R1.out.keeps KB (fun _ h => h.elim)).keeps ((Keeps.refl (fun i => i = bb) w3).setCell (.inl rfl) _) (fun i h => by have := HG.out; omega)⟩⟩
    · have := H6.out.set_ 0 (.slice A2 L.length c2')
      simpa using this
    · rw [EL.out] at O2 ⊢
      have := O2.out.setOther (o := 0) (u := .slice A2 p.length c2') H6.out (by decide)
      exact owns_less this K1.out.size

theorem foldl_push (p : List UInt8) : ∀ s : ByteArray, (p.map fun b => (b.toNat : Int)).foldl (fun r n => r.push (UInt8.ofNat n.toNat)) s = ⟨s.data ++ p.toArray⟩ := by
  induction p with
  | nil => intro s; simp
  | cons b p ih =>
    intro s
    simp only [List.map_cons, List.foldl_cons, ih, Int.toNat_natCast, UInt8.ofNat_toNat]
    congr 1
    show s.data.push b ++ p.toArray = _
    rw [Array.push_eq_append, Array.append_assoc]
    congr 1
    apply Array.ext'
    simp
/-- 'string(b)' of bytes. -/
theorem conv_text {w : World} {B : Nat} {A : Option Addr} {p : List UInt8} (h : BReads w B A p) (c : Nat) :
    (convert 23 9 (.slice A p.length c)).run Try.prog w = .ok (.string ⟨p.toArray⟩) w := by
  rw [run_convert_bytes_string w _ _ 5 A _ c Try.underlying23 Try.underlying5 Try.underlying9]
  cases A with
  | none =>
    have : p = [] := by
      rcases Nat.eq_zero_or_pos p.length with h0 | h0
      · exact List.eq_nil_of_length_eq_zero h0
      · obtain ⟨b, off, e, _⟩ := h.2 h0; cases e
    subst this
    rfl
  | some a =>
    have hf := run_firstCells_some (P := Try.prog) w 1 p.length a p.length c (bys p) h.1 (h.cells rfl)
    have hl : (loadCells a p.length).run Try.prog w = .ok (((p.map fun b => (b.toNat : Int)).map (Value.int .u8)).toArray) w := by
      have e : ((p.map fun b => (b.toNat : Int)).map (Value.int .u8)) = bys p := by simp [bys]
      rw [e]
      simpa [Builtin.firstCells] using hf
    rw [run_bytesToString w a p.length c _ hl, foldl_push]
    rw [show (ByteArray.empty.data ++ p.toArray) = p.toArray from by simp [ByteArray.empty, ByteArray.emptyWithCapacity]; rfl]
/-- The store of a text: '[]byte' to string. -/
theorem text1_any {w : World} {g br bm bb : Nat} {A : Option Addr} {c : Nat} {l : List UInt8} {at_ : Nat} {most : Int} (HR : RdAt w g A c l at_ 0)
    (h1 : Blk w br 99 #[.pointer (some ⟨g, 0, none⟩)]) (h2 : Blk w bm 3 #[.int .i64 most]) (h4 : Blk w bb 9 #[.string ⟨#[]⟩]) (hgn : g < bb) :
    Calls Try.prog 96 #[.pointer (some ⟨br, 0, none⟩), .pointer (some ⟨bm, 0, none⟩), .pointer (some ⟨bb, 0, none⟩)] w fun e w2 => Keeps (fun k => k = g ∨ k = bb) w w2 ∧
      (e = .returned (.tuple #[]) ∧ (∃ p k, blockF most (l.drop at_) = .ok (p, k) ∧ Blk w2 bb 9 #[.string ⟨p.toArray⟩] ∧ RdAt w2 g A c l (at_ + k) 0) ∨
        ∃ m, e = gaveUp m ∧ (blockF most (l.drop at_) = .error m ∧ Blk w2 bb 9 #[.string ⟨#[]⟩]) ∧ ∃ at', RdAt w2 g A c l at' 0) := by
  have c1 := h1.cell 0
  have c2 := h2.cell 0
  simp at c1 c2
  have H4 := Lib.hid h4
  have H := Lib.hid HR
  have HG := Lib.hid hgn
  clear HR h1 h2 h4 hgn
  go_enter Try.func96, Try.ntmps96
  go_wp2_with fail
  refine (block_any H.out most).mono ?_
  rintro e w1 ⟨hg, hr⟩
  have K1 := Lib.hid (Keeps.of_grown hg)
  have H5 := Lib.hid (H4.out.keeps K1.out (fun e => by have := HG.out; injection e with e; omega))
  clear hg
  cases hn : blockF most (l.drop at_) with
  | error m =>
    rw [hn] at hr
    obtain ⟨rfl, at', hr'⟩ := hr
    have R1 := Lib.hid hr'
    have HN := Lib.hid hn
    clear hr' hn
    unfold gaveUp
    go_wp2
    exact ⟨rfl, K1.out.mono (fun i h => .inl (.inl (by injection h))), .inr ⟨m, rfl, ⟨HN.out, H5.out⟩, at', R1.out⟩⟩
  | ok x =>
    obtain ⟨p, k⟩ := x
    rw [hn] at hr
    obtain ⟨A', c', rfl, hp, hr'⟩ := hr
    have R1 := Lib.hid hr'
    have P1 := Lib.hid hp
    have HN := Lib.hid hn
    have c4 := H5.out.cell 0
    have f4 := H5.out.frozen 0
    simp at c4
    have kc := conv_text hp c'
    clear hr' hn hp
    obtain ⟨n, hn⟩ : ∃ n, n = p.length := ⟨_, rfl⟩
    obtain ⟨s, hs⟩ : ∃ s : ByteArray, s = ⟨p.toArray⟩ := ⟨_, rfl⟩
    rw [← hn, ← hs] at kc
    rw [← hn]
    have HS := Lib.hid hs
    clear hn hs
    go_wp2
    go_end0
    refine ⟨(K1.out.mono (fun i h => .inl (.inl (by injection h)))).setCell (.inl (.inr rfl)) _, .inl ⟨rfl, p, k, HN.out, ?_, R1.out.keeps ((Keeps.refl (fun i => i = bb) w1).setCell (.inl rfl) _) (fun i h => by have := HG.out; omega)⟩⟩
    have := H5.out.set_ 0 (.string s)
    rw [← HS.out]
    simpa using this

/-- What a method of a reader leaves: what it answers, the reader behind it, all else as it was. -/
def RdPost {α : Type} (w : World) (g : Nat) (x : α × Rd) (ans : α → Ending → World → Prop) (e : Ending) (w' : World) : Prop :=
  ans x.1 e w' ∧ RdIs w' g x.2 ∧ Keeps (fun k => k = g) w w'
theorem RdPost.out {α : Type} {w : World} {g : Nat} {x : α × Rd} {ans : α → Ending → World → Prop} {e : Ending} {w' : World} (h : RdPost w g x ans e w') : ans x.1 e w' ∧ RdIs w' g x.2 ∧ Keeps (fun k => k = g) w w' := h

def AnsBytes (w : World) (p : List UInt8) (e : Ending) (w' : World) : Prop := ∃ v, e = .returned v ∧ BOwns w' w.heap.size v p
def AnsText (p : List UInt8) (e : Ending) (_ : World) : Prop := e = .returned (.string ⟨p.toArray⟩)
def AnsK (k : IntKind) (n : Nat) (e : Ending) (_ : World) : Prop := e = .returned (.int k n)
def AnsInt (n : Int) (e : Ending) (_ : World) : Prop := e = .returned (.int .i64 n)

theorem callFunc_enter (F : FuncId) (fn : Func) (c : Code) (hf : Try.prog.funcs[F]? = some fn) (hb : fn.body = some c) (hn : (fn.name == "runtime.NumGoroutine") = false) (caps : Array Value) (w : World) : (callFunc F caps).run Try.prog w = .ok (.enter F caps) w := by
  have hn' : ¬ fn.name = "runtime.NumGoroutine" := by simpa using hn
  simp [callFunc, hf, hb, hn']
theorem RdAt.alloc {w : World} {g : Nat} {A : Option Addr} {c : Nat} {l : List UInt8} {at_ : Nat} {f : Int} (h : RdAt w g A c l at_ f) (o : Obj) : RdAt (w.alloc o) g A c l at_ f :=
  h.keeps ((Keeps.refl (fun _ => False) w).alloc o) (fun _ h => h.elim)
theorem RdAt.below {w w' : World} {g : Nat} {A : Option Addr} {c : Nat} {l : List UInt8} {at_ : Nat} {f : Int} (h : RdAt w g A c l at_ f) (hb : Below w.heap.size w w') : RdAt w' g A c l at_ f :=
  h.keeps (Keeps.of_below hb (fun _ => False)) (fun _ h => h.elim)
theorem Blk.below' {w w' : World} {g : Nat} {t : TypeId} {cs : Array Value} (h : Blk w g t cs) (hb : Below w.heap.size w w') : Blk w' g t cs := h.below hb h.lt
theorem RdAt.drew {w : World} {g : Nat} {A : Option Addr} {c : Nat} {l : List UInt8} {at_ : Nat} {f : Int} (h : RdAt w g A c l at_ f) : RdAt w.drew g A c l at_ f := ⟨h.blk, h.reads, h.cap, h.le, h.small, h.ours⟩
end Go.Proofs.Ytnnladfndmdapaa
/- The reader's Open, Left, Fault, End: contracts; and a reader that is not there. -/
namespace Go.Proofs.Ytnnladfndmdapaa
open Go.RowKit

def Rd.left (r : Rd) : Int := (r.l.length : Int) - r.at_
def Rd.end_ (r : Rd) : Int := if r.f = 0 then (if 0 < r.left then 22 else 0) else r.f

theorem BOwns.keeps {S : Nat → Prop} {w w' : World} {base : Nat} {v : Value} {l : List UInt8} (h : BOwns w base v l) (hk : Keeps S w w') (hs : ∀ i, base ≤ i → ¬ S i) : BOwns w' base v l := by
  refine ⟨h.1, ?_⟩
  rcases h.2 with h2 | ⟨g, cap, cur, hv, hg, hh, r⟩
  · exact .inl h2
  · have hb : Blk w g 5 cur := hh
    exact .inr ⟨g, cap, cur, hv, hg, hb.keeps hk (hs g hg), r⟩
/-- What the call owns, read: below the blocks that w had not yet. -/
theorem BOwns.lies {w w' : World} {base n c : Nat} {A : Option Addr} {l : List UInt8} (h : BOwns w base (.slice A n c) l) (h' : BOwns w' base (.slice A n c) l) : BReads w' w.heap.size A l := by
  refine ⟨by rw [bys_length, Nat.mul_one], fun hp => ?_⟩
  rcases h.2 with ⟨_, h2⟩ | ⟨g, cap, cur, hv, hg, hh, _⟩
  · omega
  · have hlt : g < w.heap.size := by have hb : Blk w g 5 cur := hh; exact hb.lt
    obtain ⟨A', c', e, _, hr⟩ := h'.slice
    injection e with e1 _ _
    injection hv with e2 _ _
    subst e1
    obtain ⟨b, off, e3, _, hc⟩ := hr.2 hp
    rw [e2] at e3
    injection e3 with e3
    injection e3 with e4 e5
    subst e4; subst e5
    exact ⟨g, 0, e2, hlt, hc⟩

theorem BOwns.ours {w : World} {base n c : Nat} {A : Option Addr} {l : List UInt8} (h : BOwns w base (.slice A n c) l) : Ours w A l := fun hp => by
  rcases h.2 with ⟨_, h2⟩ | ⟨g, cap, cur, hv, hg, hh, _⟩
  · omega
  · injection hv with e _ _
    exact ⟨g, 0, cur, _, e, hh⟩

/-- A new reader, in new memory. -/
def Opened (w : World) (l : List UInt8) (e : Ending) (w' : World) : Prop := ∃ g, e = .returned (.pointer (some ⟨g, 0, none⟩)) ∧ w.heap.size ≤ g ∧ (∀ w'', Keeps (fun k => k < w.heap.size) w' w'' → RdIs w'' g ⟨l, 0, 0⟩) ∧ Below w.heap.size w w'
theorem Opened.out {w : World} {l : List UInt8} {e : Ending} {w' : World} (h : Opened w l e w') : ∃ g, e = .returned (.pointer (some ⟨g, 0, none⟩)) ∧ w.heap.size ≤ g ∧ RdIs w' g ⟨l, 0, 0⟩ ∧ Below w.heap.size w w' := by
  obtain ⟨g, e, hg, hr, hb⟩ := h
  exact ⟨g, e, hg, hr _ (Keeps.refl _ _), hb⟩
theorem Opened.all {w : World} {l : List UInt8} {e : Ending} {w' : World} (h : Opened w l e w') : ∃ g, e = .returned (.pointer (some ⟨g, 0, none⟩)) ∧ w.heap.size ≤ g ∧ g < w'.heap.size ∧ Hid (∀ w'', Keeps (fun k => k < w.heap.size) w' w'' → RdIs w'' g ⟨l, 0, 0⟩) ∧ Below w.heap.size w w' := by
  obtain ⟨g, e, hg, hr, hb⟩ := h
  exact ⟨g, e, hg, (hr _ (Keeps.refl _ _)).lt, Lib.hid hr, hb⟩

theorem open_any {w : World} {B c : Nat} {A : Option Addr} {l : List UInt8} (hr : BReads w B A l) (hl : l.length ≤ 140737488355328) :
    Calls Try.prog 65 #[.slice A l.length c] w (Opened w l) := by
  go_enter Try.func65, Try.ntmps65
  go_wp2_with fail
  refine (own_any hr hl).mono ?_
  rintro e w1 h
  obtain ⟨L, A1, c1, rfl, E1, O1, R1, B1⟩ := h.named
  have hc : L.length ≤ c1 := by obtain ⟨A', c', e, hc, _⟩ := O1.out.slice; injection e with _ _ e; omega
  have HC := Lib.hid hc
  clear h hc
  go_wp2
  go_ret
  refine ⟨w1.heap.size, rfl, B1.out.size, fun w'' hk => ⟨A1, c1, ?_⟩, B1.out.alloc B1.out.size _⟩
  rw [← E1.out]
  have O2 : BOwns w'' w.heap.size (.slice A1 L.length c1) L := (O1.out.below ((Below.refl _ _).alloc (Nat.le_refl _) _)).keeps hk (fun i hi h => by omega)
  exact ⟨(Blk.new _ _ _).keeps hk (fun h => by have := B1.out.size; omega), O1.out.lies O2, HC.out, Nat.zero_le _, by rw [E1.out]; exact hl, O2.ours⟩

theorem fault_any {w : World} {g : Nat} {r : Rd} (h : RdIs w g r) : Calls Try.prog 101 #[.pointer (some ⟨g, 0, none⟩)] w fun e w' => e = .returned (.int .i64 r.f) ∧ w = w' := by
  obtain ⟨A, c, HR⟩ := h
  have c2 := HR.blk.cell 2
  simp at c2
  clear HR
  go_enter Try.func101, Try.ntmps101
  go_wp2
  go_ret
  exact ⟨rfl, rfl⟩
theorem left_any {w : World} {g : Nat} {r : Rd} (h : RdIs w g r) : Calls Try.prog 102 #[.pointer (some ⟨g, 0, none⟩)] w fun e w' => e = .returned (.int .i64 r.left) ∧ ∃ m, w' = w.drewN m := by
  obtain ⟨A, c, HR⟩ := h
  have c0 := HR.blk.cell 0
  have c1 := HR.blk.cell 1
  have hs := HR.small
  have hl := HR.le
  simp at c0 c1
  clear HR
  go_enter Try.func102, Try.ntmps102
  go_wp2
  go_quiet (fail)
  go_wp2
  go_ret
  exact ⟨rfl, _, rfl⟩
theorem end_any {w : World} {g : Nat} {r : Rd} (h : RdIs w g r) : Calls Try.prog 70 #[.pointer (some ⟨g, 0, none⟩)] w fun e w' => e = .returned (.int .i64 r.end_) ∧ ∃ m, w' = w.drewN m := by
  have H := Lib.hid h
  clear h
  by_cases hf : r.f = 0
  · have hb : ((r.f : Int) != 0) = false := by simpa using hf
    have HF := Lib.hid hf
    clear hf
    by_cases hl : 0 < r.left
    · have HE := Lib.hid (show r.end_ = 22 from by unfold Rd.end_; rw [if_pos HF.out, if_pos hl])
      go_enter Try.func70, Try.ntmps70
      go_wp2_with fail
      refine (fault_any H.out).mono ?_
      rintro e w' ⟨rfl, rfl⟩
      go_wp2_with fail
      refine (left_any H.out).mono ?_
      rintro e w' ⟨rfl, m, rfl⟩
      go_wp2
      go_ret
      exact ⟨by rw [HE.out]; rfl, _, rfl⟩
    · have HE := Lib.hid (show r.end_ = 0 from by unfold Rd.end_; rw [if_pos HF.out, if_neg hl])
      go_enter Try.func70, Try.ntmps70
      go_wp2_with fail
      refine (fault_any H.out).mono ?_
      rintro e w' ⟨rfl, rfl⟩
      go_wp2_with fail
      refine (left_any H.out).mono ?_
      rintro e w' ⟨rfl, m, rfl⟩
      go_wp2
      go_ret
      exact ⟨by rw [HE.out]; rfl, _, rfl⟩
  · have hb : ((r.f : Int) != 0) = true := by simpa using hf
    have HE := Lib.hid (show r.end_ = r.f from by unfold Rd.end_; rw [if_neg hf])
    clear hf
    go_enter Try.func70, Try.ntmps70
    go_wp2_with fail
    refine (fault_any H.out).mono ?_
    rintro e w' ⟨rfl, rfl⟩
    go_wp2
    go_ret
    exact ⟨by rw [HE.out]; rfl, 0, rfl⟩
end Go.Proofs.Ytnnladfndmdapaa
/- Bytes that the call owns, written one by one. -/
namespace Go.Proofs.Ytnnladfndmdapaa
open Go.RowKit

/-- The block of bytes that the call owns. -/
theorem BOwns.block {w : World} {base n c : Nat} {A : Option Addr} {l : List UInt8} (h : BOwns w base (.slice A n c) l) (hp : 0 < l.length) :
    ∃ g, A = some ⟨g, 0, none⟩ ∧ base ≤ g ∧ g < w.heap.size ∧ (∀ i, w.frozen? ⟨g, i, none⟩ = false) ∧ ∀ i, (hi : i < l.length) → w.cell? ⟨g, i, none⟩ = some (.int .u8 (l[i].toNat : Int)) := by
  rcases h.2 with ⟨_, h2⟩ | ⟨g, cap, cur, hv, hg, hh, r⟩
  · omega
  · injection hv with e1 _ _
    subst e1
    have hb : Blk w g 5 cur := hh
    obtain ⟨A', c', e, _, hr⟩ := BOwns.slice h
    injection e with e2 _ _
    subst e2
    refine ⟨g, rfl, hg, hb.lt, fun i => hb.frozen i, fun i hi => ?_⟩
    obtain ⟨b, off, e3, _, hc⟩ := BReads.at_ hr hi
    injection e3 with e3
    injection e3 with e4 e5
    subst e4; subst e5
    rw [Nat.zero_add] at hc
    exact hc
theorem BOwns.store {w : World} {base g n c i : Nat} {l : List UInt8} (h : BOwns w base (.slice (some ⟨g, 0, none⟩) n c) l) (hi : i < l.length) (x : UInt8) :
    BOwns (w.setCell ⟨g, i, none⟩ (.int .u8 (x.toNat : Int))) base (.slice (some ⟨g, 0, none⟩) n c) (l.set i x) := by
  refine ⟨by rw [bys_length, Nat.mul_one], ?_⟩
  rcases h.2 with ⟨h1, h2⟩ | ⟨g', cap, cur, hv, hg, hh, hn, hcm, hs, ht⟩
  · omega
  · injection hv with e1 e2 e3
    injection e1 with e1
    injection e1 with e1 _ _
    subst e1; subst e3
    rw [List.length_set]
    refine .inr ⟨g, c, cur.setIfInBounds i (.int .u8 (x.toNat : Int)), by rw [e2], hg, ?_, hn, hcm, by simpa using hs, ?_⟩
    · have hb : Blk w g 5 cur := hh
      exact hb.set_ i _
    · rw [Nat.mul_one] at ht ⊢
      rw [Array.toList_setIfInBounds, List.take_set, ht]
      simp [bys, List.map_set]
theorem bits_u8 (op : BinOp) (a b : Int) : ∃ x : UInt8, bits op .u8 a b = (x.toNat : Int) := by
  have h : ∃ n : Int, bits op .u8 a b = IntKind.u8.wrap n := ⟨_, rfl⟩
  obtain ⟨n, hn⟩ := h
  rw [hn, IntKind.wrap_u8]
  refine ⟨UInt8.ofNat (n % 256).toNat, ?_⟩
  rw [u8_int _ (by omega)]
  omega
end Go.Proofs.Ytnnladfndmdapaa
/- slices.Equal of bytes, by its contract. -/
namespace Go.Proofs.Ytnnladfndmdapaa
open Go.RowKit

/-- The call answers the bool b and turns no memory. -/
def SaysB (w : World) (b : Bool) (e : Ending) (w' : World) : Prop := e = .returned (.bool b) ∧ ∃ m, w' = w.drewN m
theorem SaysB.out {w w' : World} {b : Bool} {e : Ending} (h : SaysB w b e w') : e = .returned (.bool b) ∧ ∃ m, w' = w.drewN m := h

theorem take_succ_eq {a b : List UInt8} {k : Nat} (ha : k < a.length) (hb : k < b.length) (h : a.take k = b.take k) (hx : a[k] = b[k]) : a.take (k + 1) = b.take (k + 1) := by
  rw [List.take_succ_eq_append_getElem ha, List.take_succ_eq_append_getElem hb, h, hx]

theorem equal_any {w : World} {B B' c c' : Nat} {A A' : Option Addr} {a b : List UInt8} (ha : BReads w B A a) (hb : BReads w B' A' b) (hl : a.length ≤ 140737488355328) :
    Calls Try.prog 44 #[.slice A a.length c, .slice A' b.length c'] w (SaysB w (decide (a = b))) := by
  by_cases hne : a.length = b.length
  · have HN := Lib.hid hne
    have h0 : ((a.length : Int) != (b.length : Int)) = false := by rw [hne]; simp
    clear hne
    go_enter Try.func44, Try.ntmps44
    go_wp2
    go_loopw [13] (fun i wr => ∃ (k m : Nat), i = .int .i64 k ∧ k ≤ a.length ∧ Hid (a.take k = b.take k) ∧ Hid (wr = w.drewN m)) (fun i _ => a.length - (intOf i).toNat)
    case atStart => exact ⟨0, 0, rfl, Nat.zero_le _, Lib.hid rfl, Lib.hid rfl⟩
    case round =>
      obtain ⟨k, m, rfl, hk, ht, hw⟩ := hrel
      have hw0 := hw.out
      subst hw0
      by_cases hlt : k < a.length
      · have hltb : k < b.length := by have := HN.out; omega
        obtain ⟨b1, o1, rfl, _, c1⟩ := ha.at_ hlt
        obtain ⟨b2, o2, rfl, _, c2⟩ := hb.at_ hltb
        have hi0 : 0 ≤ (k : Int) := by omega
        have hi1 : (k : Int) < (a.length : Int) := by omega
        have hi2 : (k : Int) < (b.length : Int) := by omega
        by_cases hx : a[k] = b[k]
        · have hv : ((a[k].toNat : Int) != (b[k].toNat : Int)) = false := by rw [hx]; simp
          have HX := Lib.hid hx
          clear hx
          go_wp2
          go_quiet (fail)
          go_wp2
          go_roundw
          case rel => exact ⟨k + 1, _, by go_num, by omega, Lib.hid (take_succ_eq hlt hltb ht.out HX.out), Lib.hid rfl⟩
          case measure => simp [intOf]; omega
        · have hv : ((a[k].toNat : Int) != (b[k].toNat : Int)) = true := by
            rw [bne_iff_ne]; intro e; exact hx (UInt8.toNat_inj.1 (by omega))
          have HX := Lib.hid hx
          clear hx
          go_wp2
          go_quiet (fail)
          go_wp2
          go_ret
          exact ⟨congrArg (fun b => Ending.returned (.bool b)) (decide_eq_false (fun e => HX.out (by simp only [e]))).symm, _, World.drewN_drewN ..⟩
      · go_wp2
        go_ret
        have hk0 : k = a.length := by omega
        have := ht.out
        rw [hk0, List.take_length] at this
        exact ⟨congrArg (fun b => Ending.returned (.bool b)) (decide_eq_true (this.trans (by rw [HN.out, List.take_length]))).symm, _, rfl⟩
  · have h0 : ((a.length : Int) != (b.length : Int)) = true := by rw [bne_iff_ne]; omega
    have HN := Lib.hid hne
    clear hne
    go_enter Try.func44, Try.ntmps44
    go_wp2
    go_ret
    exact ⟨congrArg (fun b => Ending.returned (.bool b)) (decide_eq_false (fun e => HN.out (by rw [e]))).symm, 0, rfl⟩
end Go.Proofs.Ytnnladfndmdapaa
/- Rows of bytes with spare room, filled and grown: words for laws on new memory. -/
namespace Go.Proofs.Ytnnladfndmdapaa
open Go.RowKit

theorem BOwns.keepsB {S : Nat → Prop} {w w' : World} {base : Nat} {v : Value} {l : List UInt8} (h : BOwns w base v l) (hk : Keeps S w w') (hs : ∀ k, v.ownBlock = some k → ¬ S k) : BOwns w' base v l := by
  refine ⟨h.1, ?_⟩
  rcases h.2 with h2 | ⟨g, cap, cur, hv, hg, hh, r⟩
  · exact .inl h2
  · have hb : Blk w g 5 cur := hh
    exact .inr ⟨g, cap, cur, hv, hg, hb.keeps hk (hs g (by rw [hv]; rfl)), r⟩
theorem BOwns.lt {w : World} {base : Nat} {v : Value} {l : List UInt8} (h : BOwns w base v l) {k : Nat} (hk : v.ownBlock = some k) : base ≤ k ∧ k < w.heap.size := by
  rcases h.2 with ⟨h2, _⟩ | ⟨g, cap, cur, hv, hg, hh, r⟩
  · rw [h2] at hk; cases hk
  · have hb : Blk w g 5 cur := hh
    rw [hv] at hk
    injection hk with hk
    subst hk
    exact ⟨hg, hb.lt⟩
theorem BOwns.reads {w : World} {base n c : Nat} {A : Option Addr} {l : List UInt8} (h : BOwns w base (.slice A n c) l) : BReads w w.heap.size A l := by
  obtain ⟨A', c', e, _, hr⟩ := BOwns.slice h
  injection e with e1
  subst e1
  exact hr
theorem own_block {g n c : Nat} : (Value.slice (some ⟨g, 0, none⟩) n c).ownBlock = some g := rfl
/-- What a row has come to while it is filled. -/
def fillL (x : UInt8) (i : Nat) (l : List UInt8) : List UInt8 := List.replicate i x ++ l.drop i
theorem fillL_length {x : UInt8} {i : Nat} {l : List UInt8} (h : i ≤ l.length) : (fillL x i l).length = l.length := by
  unfold fillL; rw [List.length_append, List.length_replicate, List.length_drop]; omega
theorem fillL_zero (x : UInt8) (l : List UInt8) : fillL x 0 l = l := rfl
theorem fillL_full (x : UInt8) (l : List UInt8) : fillL x l.length l = List.replicate l.length x := by
  unfold fillL; rw [List.drop_length, List.append_nil]
theorem fillL_set {x : UInt8} {i : Nat} {l : List UInt8} (h : i < l.length) : (fillL x i l).set i x = fillL x (i + 1) l := by
  unfold fillL
  rw [List.set_append_right _ _ (by simp), List.length_replicate, Nat.sub_self, List.drop_eq_getElem_cons h, List.set_cons_zero, List.replicate_succ', List.append_assoc]
  rfl
theorem bowns_len {w : World} {base n c : Nat} {A : Option Addr} {l : List UInt8} (h : BOwns w base (.slice A n c) l) : n = l.length := by
  obtain ⟨A', c', e, _, _⟩ := BOwns.slice h; injection e
/-- A row while a byte of it is written. -/
theorem fill_step {w0 w : World} {base n c i : Nat} {A : Option Addr} {l : List UInt8} {x : UInt8} {m : Int} (h : BOwns w base (.slice A n c) (fillL x i l)) (hi : i < l.length) (hm : m = (x.toNat : Int)) (hk : Keeps (fun k => some k = (Value.slice A n c).ownBlock) w0 w) :
    ∃ g u, A = some ⟨g, 0, none⟩ ∧ w.frozen? ⟨g, i, none⟩ = false ∧ w.cell? ⟨g, i, none⟩ = some u ∧ Hid (BOwns (w.setCell ⟨g, i, none⟩ (.int .u8 m)) base (.slice A n c) (fillL x (i + 1) l)) ∧
      Hid (Keeps (fun k => some k = (Value.slice A n c).ownBlock) w0 (w.setCell ⟨g, i, none⟩ (.int .u8 m))) := by
  have hl := fillL_length (x := x) (l := l) (Nat.le_of_lt hi)
  have hn := bowns_len h
  obtain ⟨g, rfl, h1, h2, h3, h4⟩ := BOwns.block h (by omega)
  subst hm
  have hs := BOwns.store h (i := i) (by omega) x
  rw [fillL_set hi] at hs
  exact ⟨g, _, rfl, h3 i, h4 i (by omega), Lib.hid hs, Lib.hid (hk.setCell (p := ⟨g, i, none⟩) (.inl rfl) _)⟩
/-- A row of the call's own that grows by one byte. -/
structure Grows (w0 w : World) (base : Nat) (row : Option Nat) (v : Value) (l : List UInt8) : Prop where
  own : BOwns w base v l
  grown : w0.grownBy w row
  from_ : OwnFrom w0 row v
  le : base ≤ w0.heap.size
theorem Grows.start {w : World} {base : Nat} {v : Value} {l : List UInt8} (h : BOwns w base v l) (hb : base ≤ w.heap.size) : Grows w w base v.ownBlock v l := ⟨h, World.grownBy.refl _ _, .inl rfl, hb⟩
theorem Grows.step {w0 w w1 : World} {base : Nat} {row : Option Nat} {v v' : Value} {l : List UInt8} {o : Obj} {m : List UInt8} (h : Grows w0 w base row v l) (ho : BOwns w1 base v' (l ++ m)) (hg : (w.alloc o).grownBy w1 v.ownBlock) (hf : v'.ownBlock = v.ownBlock ∨ v'.ownBlock = some (w.alloc o).heap.size) : Grows w0 w1 base row v' (l ++ m) :=
  ⟨ho, grown_step (grown_alloc h.grown _) h.from_ hg, OwnFrom.step h.from_ (by have := h.grown.size; simp; omega) hf, h.le⟩
theorem Grows.keeps {w0 w : World} {base : Nat} {row : Option Nat} {v : Value} {l : List UInt8} (h : Grows w0 w base row v l) : Keeps (fun k => some k = row) w0 w := Keeps.of_grown h.grown
theorem Grows.far {w0 w : World} {base : Nat} {row : Option Nat} {v : Value} {l : List UInt8} (h : Grows w0 w base row v l) {k : Nat} (hk : k < w0.heap.size) (hr : row ≠ some k) : v.ownBlock ≠ some k := fun e => by
  rcases h.from_ with h1 | h1
  · exact hr (h1.symm.trans e)
  · have := h1 k e; omega
theorem rep_snoc (l : List UInt8) (K : Nat) (x : UInt8) : l ++ List.replicate K x ++ [x] = l ++ List.replicate (K + 1) x := by
  rw [List.append_assoc, List.replicate_succ']

/-- Rows of the call's own, each in a block of its own. -/
structure Rws (w0 w : World) (rs : List (Value × List UInt8)) : Prop where
  own : ∀ r ∈ rs, BOwns w w0.heap.size r.1 r.2
  sep : rs.Pairwise fun a b => ∀ k, a.1.ownBlock = some k → b.1.ownBlock ≠ some k
  bel : Below w0.heap.size w0 w
section
variable {w0 w w' : World} {rs : List (Value × List UInt8)} {v v' u : Value} {l l' m : List UInt8}
theorem Rws.nil (h : Below w0.heap.size w0 w) : Rws w0 w [] := ⟨fun _ h => (by cases h), List.Pairwise.nil, h⟩
theorem Rws.go (h : Rws w0 w rs) (hb : Below w.heap.size w w') : Rws w0 w' rs := ⟨fun r hr => (h.own r hr).below hb, h.sep, h.bel.trans (hb.mono h.bel.size)⟩
theorem Rws.new (h : Rws w0 w rs) (ho : BOwns w' w.heap.size v l) (hb : Below w.heap.size w w') : Rws w0 w' ((v, l) :: rs) := by
  refine ⟨fun r hr => ?_, List.pairwise_cons.2 ⟨fun r hr k e1 e2 => ?_, h.sep⟩, h.bel.trans (hb.mono h.bel.size)⟩
  · rcases List.mem_cons.1 hr with rfl | hr
    · exact owns_less ho h.bel.size
    · exact (h.own r hr).below hb
  · have := (ho.lt e1).1; have := ((h.own r hr).lt e2).2; omega
theorem Rws.swap (h : Rws w0 w ((v, l) :: (u, m) :: rs)) : Rws w0 w ((u, m) :: (v, l) :: rs) := by
  have h1 := List.pairwise_cons.1 h.sep
  have h2 := List.pairwise_cons.1 h1.2
  refine ⟨fun r hr => h.own r (by simp only [List.mem_cons] at hr ⊢; rcases hr with h | h | h <;> simp [h]), List.pairwise_cons.2 ⟨fun r hr k e1 e2 => ?_, List.pairwise_cons.2 ⟨fun r hr => h1.1 r (List.mem_cons_of_mem _ hr), h2.2⟩⟩, h.bel⟩
  rcases List.mem_cons.1 hr with rfl | hr
  · exact h1.1 _ (List.mem_cons_self ..) k e2 e1
  · exact h2.1 r hr k e1 e2
theorem Rws.rot3 {x : Value} {lx : List UInt8} (h : Rws w0 w ((v, l) :: (u, m) :: (x, lx) :: rs)) : Rws w0 w ((x, lx) :: (v, l) :: (u, m) :: rs) := by
  have h1 := List.pairwise_cons.1 h.sep
  have h2 := List.pairwise_cons.1 h1.2
  have h3 := List.pairwise_cons.1 h2.2
  refine ⟨fun r hr => h.own r (by simp only [List.mem_cons] at hr ⊢; rcases hr with h | h | h | h <;> simp [h]), List.pairwise_cons.2 ⟨fun r hr k e1 e2 => ?_, List.pairwise_cons.2 ⟨fun r hr k e1 e2 => ?_, List.pairwise_cons.2 ⟨fun r hr => h2.1 r (List.mem_cons_of_mem _ hr), h3.2⟩⟩⟩, h.bel⟩
  · rcases List.mem_cons.1 hr with rfl | hr
    · exact h1.1 _ (by simp) k e2 e1
    · rcases List.mem_cons.1 hr with rfl | hr
      · exact h2.1 _ (by simp) k e2 e1
      · exact h3.1 r hr k e1 e2
  · rcases List.mem_cons.1 hr with rfl | hr
    · exact h1.1 _ (by simp) k e1 e2
    · exact h1.1 r (by simp [hr]) k e1 e2
theorem Rws.tail (h : Rws w0 w ((v, l) :: rs)) : Rws w0 w rs := ⟨fun r hr => h.own r (List.mem_cons_of_mem _ hr), (List.pairwise_cons.1 h.sep).2, h.bel⟩
theorem Rws.turn (h : Rws w0 w ((v, l) :: rs)) (ho : BOwns w' w0.heap.size v' l') (hk : Keeps (fun k => some k = v.ownBlock) w w') (hne : ∀ k, v'.ownBlock = some k → ∀ r ∈ rs, r.1.ownBlock ≠ some k) : Rws w0 w' ((v', l') :: rs) := by
  have h1 := List.pairwise_cons.1 h.sep
  refine ⟨fun r hr => ?_, List.pairwise_cons.2 ⟨fun r hr k e => hne k e r hr, h1.2⟩, h.bel.trans (hk.below h.bel.size (fun i hi => ((h.own _ (List.mem_cons_self ..)).lt hi.symm).1))⟩
  rcases List.mem_cons.1 hr with rfl | hr
  · exact ho
  · exact (h.own r (List.mem_cons_of_mem _ hr)).keepsB hk (fun k e e' => h1.1 r hr k e'.symm e)
theorem Rws.head (h : Rws w0 w ((v, l) :: rs)) : BOwns w w0.heap.size v l := h.own _ (List.mem_cons_self ..)
theorem Rws.fill (h : Rws w0 w ((v, l) :: rs)) (ho : BOwns w' w0.heap.size v l') (hk : Keeps (fun k => some k = v.ownBlock) w w') : Rws w0 w' ((v, l') :: rs) :=
  h.turn ho hk fun k e r hr => (List.pairwise_cons.1 h.sep).1 r hr k e
theorem Rws.grow (h : Rws w0 w ((v, l) :: rs)) (hg : Grows w w' w0.heap.size v.ownBlock v' l') : Rws w0 w' ((v', l') :: rs) :=
  h.turn hg.own hg.keeps fun k e r hr e2 => hg.far ((h.own r (List.mem_cons_of_mem _ hr)).lt e2).2 (fun e3 => (List.pairwise_cons.1 h.sep).1 r hr k e3 e2) e
theorem Rws.turnBlk {g : Nat} {t : TypeId} {cs : Array Value} (h : Rws w0 w rs) (hb : Blk w g t cs) (ht : 5 ≠ t) (hk : Keeps (fun k => k = g) w w') (hg : w0.heap.size ≤ g) : Rws w0 w' rs :=
  ⟨fun r hr => (h.own r hr).keepsB hk (fun k e e' => by
    subst e'
    rcases (h.own r hr).2 with ⟨h2, _⟩ | ⟨g', cap, cur, hv, _, hh, _⟩
    · rw [h2] at e; cases e
    · rw [hv] at e
      have e' : g' = k := Option.some.inj e
      subst e'
      unfold Blk at hb
      rw [hb] at hh
      injection hh with hh
      injection hh with _ hh
      exact ht hh.symm), h.sep, h.bel.trans (hk.below h.bel.size (fun i hi => by omega))⟩
/-- A block of another type stays while a row is written. -/
theorem Rws.blk {g : Nat} {t : TypeId} {cs : Array Value} (h : BOwns w w0.heap.size v l) (hb : Blk w g t cs) (ht : 5 ≠ t) (hk : Keeps (fun k => some k = v.ownBlock) w w') : Blk w' g t cs := by
  refine hb.keeps hk fun e => ?_
  rcases h.2 with ⟨h2, _⟩ | ⟨g', cap, cur, hv, hg, hh, r⟩
  · rw [h2] at e; cases e
  · rw [hv] at e
    have e' : g = g' := Option.some.inj e
    subst e'
    unfold Blk at hb
    rw [hb] at hh
    injection hh with hh
    injection hh with _ hh
    exact ht hh.symm
end

end Go.Proofs.Ytnnladfndmdapaa
/- Pieces of memory that lie apart: blocks, rows of bytes, and what is made of them. -/
namespace Go.Proofs.Ytnnladfndmdapaa
open Go.RowKit

/-- A piece of memory: its blocks, and what they hold. -/
structure Item where
  own : Nat → Prop
  P : World → Prop
  keep : ∀ {w w' : World}, P w → (∀ k, own k → w'.heap[k]? = w.heap[k]?) → P w'
  lt : ∀ {w : World} {k : Nat}, P w → own k → k < w.heap.size
def Item.blk (g : Nat) (t : TypeId) (cs : Array Value) : Item where
  own := fun k => k = g
  P := fun w => Blk w g t cs
  keep := fun h hk => (hk g rfl).trans h
  lt := fun h e => by subst e; exact Blk.lt h
def Item.row (v : Value) (l : List UInt8) : Item where
  own := fun k => v.ownBlock = some k
  P := fun w => BOwns w 0 v l
  keep := fun {w w'} h hk => by
    refine ⟨h.1, ?_⟩
    rcases h.2 with h2 | ⟨g, cap, cur, hv, hb, hh, r⟩
    · exact .inl h2
    · exact .inr ⟨g, cap, cur, hv, hb, (hk g (by rw [hv]; rfl)).trans hh, r⟩
  lt := fun h e => (h.lt e).2
/-- Pieces that lie apart. -/
def Item.all (L : List Item) : Item where
  own := fun k => ∃ i ∈ L, i.own k
  P := fun w => (∀ i ∈ L, i.P w) ∧ L.Pairwise fun (a b : Item) => ∀ k : Nat, a.own k → ¬ b.own k
  keep := fun h hk => ⟨fun i hi => i.keep (h.1 i hi) fun k ho => hk k ⟨i, hi, ho⟩, h.2⟩
  lt := fun h ⟨i, hi, ho⟩ => i.lt (h.1 i hi) ho
theorem Item.go {x : Item} {w w' : World} (h : x.P w) (hb : Below w.heap.size w w') : x.P w' := x.keep h fun k hk => hb.block k (x.lt h hk)
theorem Item.far {x : Item} {w w' : World} {S : Nat → Prop} (h : x.P w) (hk : Keeps S w w') (hs : ∀ k, x.own k → ¬ S k) : x.P w' := x.keep h fun k ho => hk.block k (x.lt h ho) (hs k ho)
/-- A piece has become another one; nothing else was written. -/
structure Turn (x : Item) (w : World) (y : Item) (w' : World) : Prop where
  p : y.P w'
  k : Keeps x.own w w'
  o : ∀ k, y.own k → x.own k ∨ w.heap.size ≤ k
section
variable {x y z a b : Item} {w w' w'' : World} {L M : List Item}
theorem Turn.refl (h : x.P w) : Turn x w x w := ⟨h, Keeps.refl _ _, fun _ h => .inl h⟩
theorem Turn.trans (h : Turn x w y w') (h' : Turn y w' z w'') : Turn x w z w'' :=
  ⟨h'.p, h.k.trans h'.k (fun i hi => h.o i hi), fun k hk => by
    rcases h'.o k hk with h1 | h1
    · exact h.o k h1
    · exact .inr (Nat.le_trans h.k.size h1)⟩
theorem Turn.go (h : Turn x w y w') (hb : Below w'.heap.size w' w'') : Turn x w y w'' :=
  ⟨Item.go h.p hb, h.k.trans (Keeps.of_below hb (fun _ => False)) (fun _ h => h.elim), h.o⟩
theorem Turn.pre (hb : Below w.heap.size w w') (h : Turn x w' y w'') : Turn x w y w'' :=
  ⟨h.p, (Keeps.of_below hb x.own).trans h.k (fun i hi => .inl hi), fun k hk => by
    rcases h.o k hk with h1 | h1
    · exact .inl h1
    · exact .inr (Nat.le_trans hb.size h1)⟩
theorem Turn.below {B : Nat} (h : Turn x w y w') (hB : B ≤ w.heap.size) (ho : ∀ k, x.own k → B ≤ k) : Below B w w' := h.k.below hB ho
theorem Item.all_get (h : (Item.all L).P w) (hx : x ∈ L) : x.P w := h.1 x hx
theorem Item.all_perm (h : (Item.all L).P w) (hp : L.Perm M) : (Item.all M).P w :=
  ⟨fun i hi => h.1 i (hp.mem_iff.2 hi), hp.pairwise h.2 (fun {a b} hab k hb ha => hab k ha hb)⟩
/-- A piece more, all of it new. -/
theorem Item.all_add (h : (Item.all L).P w) (hb : Below w.heap.size w w') (hy : y.P w') (ho : ∀ k, y.own k → w.heap.size ≤ k) : (Item.all (y :: L)).P w' :=
  ⟨fun i hi => by
    rcases List.mem_cons.1 hi with rfl | hi
    · exact hy
    · exact Item.go (h.1 i hi) hb, List.pairwise_cons.2 ⟨fun i hi k h1 h2 => by have := ho k h1; have := i.lt (h.1 i hi) h2; omega, h.2⟩⟩
/-- The first of the pieces has become another one. -/
theorem Item.all_head (h : (Item.all (x :: L)).P w) (t : Turn x w y w') : (Item.all (y :: L)).P w' := by
  have h1 := List.pairwise_cons.1 h.2
  have hx : ∀ i ∈ L, i.P w := fun i hi => h.1 i (List.mem_cons_of_mem _ hi)
  refine ⟨fun i hi => ?_, List.pairwise_cons.2 ⟨fun i hi k hk hk2 => ?_, h1.2⟩⟩
  · rcases List.mem_cons.1 hi with rfl | hi
    · exact t.p
    · exact Item.far (hx i hi) t.k fun k hk hk2 => h1.1 i hi k hk2 hk
  · rcases t.o k hk with h2 | h2
    · exact h1.1 i hi k h2 hk2
    · have := i.lt (hx i hi) hk2; omega
theorem Turn.head (h : (Item.all (x :: L)).P w) (t : Turn x w y w') : Turn (Item.all (x :: L)) w (Item.all (y :: L)) w' :=
  ⟨Item.all_head h t, t.k.mono (fun i hi => .inl ⟨x, List.mem_cons_self .., hi⟩), fun k ⟨i, hi, hk⟩ => by
    rcases List.mem_cons.1 hi with rfl | hi
    · rcases t.o k hk with h1 | h1
      · exact .inl ⟨x, List.mem_cons_self .., h1⟩
      · exact .inr h1
    · exact .inl ⟨i, List.mem_cons_of_mem _ hi, hk⟩⟩
theorem Turn.second (h : (Item.all (a :: x :: L)).P w) (t : Turn x w y w') : Turn (Item.all (a :: x :: L)) w (Item.all (a :: y :: L)) w' := by
  have hp := Item.all_perm h (List.Perm.swap x a L)
  have t1 := Turn.head hp t
  exact ⟨Item.all_perm t1.p (List.Perm.swap a y L), t1.k.mono (fun i ⟨j, hj, hk⟩ => .inl ⟨j, (List.Perm.swap x a L).mem_iff.2 hj, hk⟩), fun k ⟨i, hi, hk⟩ => by
    rcases t1.o k ⟨i, (List.Perm.swap a y L).mem_iff.2 hi, hk⟩ with ⟨j, hj, h2⟩ | h2
    · exact .inl ⟨j, (List.Perm.swap x a L).mem_iff.2 hj, h2⟩
    · exact .inr h2⟩
theorem Turn.new (h : (Item.all L).P w) (hb : Below w.heap.size w w') (hy : y.P w') (ho : ∀ k, y.own k → w.heap.size ≤ k) : Turn (Item.all L) w (Item.all (y :: L)) w' :=
  ⟨Item.all_add h hb hy ho, Keeps.of_below hb _, fun k ⟨i, hi, hk⟩ => by
    rcases List.mem_cons.1 hi with rfl | hi
    · exact .inr (ho k hk)
    · exact .inl ⟨i, hi, hk⟩⟩
theorem Turn.drop (h : Turn x w (Item.all (y :: L)) w') : Turn x w (Item.all L) w' :=
  ⟨⟨fun i hi => h.p.1 i (List.mem_cons_of_mem _ hi), (List.pairwise_cons.1 h.p.2).2⟩, h.k, fun k ⟨i, hi, hk⟩ => h.o k ⟨i, List.mem_cons_of_mem _ hi, hk⟩⟩
/-- The same with the pieces in another order. -/
theorem Turn.perm (h : Turn (Item.all L) w y w') (hp : L.Perm M) : Turn (Item.all M) w y w' :=
  ⟨h.p, h.k.mono (fun i ⟨j, hj, hk⟩ => .inl ⟨j, hp.mem_iff.1 hj, hk⟩), fun k hk => by
    rcases h.o k hk with ⟨j, hj, h2⟩ | h2
    · exact .inl ⟨j, hp.mem_iff.1 hj, h2⟩
    · exact .inr h2⟩
theorem Turn.permR (h : Turn x w (Item.all L) w') (hp : L.Perm M) : Turn x w (Item.all M) w' :=
  ⟨Item.all_perm h.p hp, h.k, fun k ⟨j, hj, hk⟩ => h.o k ⟨j, hp.mem_iff.2 hj, hk⟩⟩
/-- One of the pieces has become another one. -/
theorem Turn.set {i : Nat} (h : (Item.all L).P w) (hi : L[i]? = some x) (t : Turn x w y w') : Turn (Item.all L) w (Item.all (L.set i y)) w' := by
  obtain ⟨hlt, he⟩ := List.getElem?_eq_some_iff.1 hi
  have e1 : L = L.take i ++ x :: L.drop (i + 1) := by rw [← he, ← List.drop_eq_getElem_cons hlt, List.take_append_drop]
  have e2 : L.set i y = L.take i ++ y :: L.drop (i + 1) := by rw [List.set_eq_take_append_cons_drop, if_pos hlt]
  rw [e2]
  have p1 : L.Perm (x :: (L.take i ++ L.drop (i + 1))) := by
    have := List.perm_middle (a := x) (l₁ := L.take i) (l₂ := L.drop (i + 1))
    rwa [← e1] at this
  have hp := Item.all_perm h p1
  exact ((Turn.head hp t).perm p1.symm).permR (List.perm_middle (a := y) (l₁ := L.take i) (l₂ := L.drop (i + 1))).symm
theorem Turn.wide (h : Turn x w y w') (hz : z.P w) (ho : ∀ k, x.own k → z.own k) (hy : ∀ k, y.own k → z.own k ∨ w.heap.size ≤ k) : Turn z w y w' :=
  ⟨h.p, h.k.mono (fun i hi => .inl (ho i hi)), hy⟩
/-- A cell of a block is written. -/
theorem Turn.cell {g : Nat} {t : TypeId} {cs : Array Value} (h : Blk w g t cs) (i : Nat) (u : Value) : Turn (Item.blk g t cs) w (Item.blk g t (cs.setIfInBounds i u)) (w.setCell ⟨g, i, none⟩ u) :=
  ⟨h.set_ i u, (Keeps.refl (fun k => k = g) w).setCell (p := ⟨g, i, none⟩) (.inl rfl) u, fun k hk => .inl hk⟩
/-- A row of bytes has become another one. -/
theorem Turn.row {v v' : Value} {l l' : List UInt8} {base : Nat} (ho : BOwns w' base v' l') (hk : Keeps (fun k => some k = v.ownBlock) w w') (hf : v'.ownBlock = v.ownBlock ∨ ∀ k, v'.ownBlock = some k → w.heap.size ≤ k) :
    Turn (Item.row v l) w (Item.row v' l') w' :=
  ⟨owns_less ho (Nat.zero_le _), hk.mono (fun i hi => .inl hi.symm), fun k hk => by
    rcases hf with h | h
    · exact .inl (h.symm.trans hk)
    · exact .inr (h k hk)⟩
end
end Go.Proofs.Ytnnladfndmdapaa
/- A region that draws its order, by what holds between two of its operations. -/
namespace Go.Proofs.Ytnnladfndmdapaa
open Go.RowKit

/-- Each operation names only earlier ones. -/
def lexB (ops : Array Oper) : Bool := (List.range ops.size).all fun i => ((ops[i]?).map fun o => o.after.all fun e => decide (e.on < i)).getD true
theorem lexB_spec {ops : Array Oper} (h : lexB ops = true) {i : Nat} {o : Oper} (hi : ops[i]? = some o) : ∀ e ∈ o.after, e.on < i := by
  have hlt : i < ops.size := (Array.getElem?_eq_some_iff.1 hi).1
  have := List.all_eq_true.1 h i (List.mem_range.2 hlt)
  rw [hi] at this
  intro e he
  simp only [Option.map_some, Option.getD_some] at this
  exact of_decide_eq_true (Array.all_eq_true'.1 this e he)
/-- What is listed. -/
def lis (listed : Array Bool) (k : Nat) : Bool := listed.getD k false
def upd (L : Nat → Bool) (i : Nat) : Nat → Bool := fun k => if k = i then true else L k
theorem lis_upd {listed : Array Bool} {i : Nat} (h : i < listed.size) : lis (listed.setIfInBounds i true) = upd (lis listed) i := by
  funext k
  unfold lis upd
  rw [Array.getD_eq_getD_getElem?, Array.getElem?_setIfInBounds]
  by_cases hk : i = k
  · subst hk; simp [h]
  · simp [hk, Ne.symm hk]
theorem ready_spec {md : Region.Mode} {ops : Array Oper} {listed : Array Bool} {i : Nat} (hs : listed.size = ops.size) (h : i ∈ Region.ready md ops listed) :
    ∃ o, ops[i]? = some o ∧ lis listed i = false ∧ ∀ e ∈ o.after, Region.binds md e = true → lis listed e.on = true := by
  unfold Region.ready at h
  obtain ⟨h1, h2⟩ := List.mem_filter.1 h
  have hlt := List.mem_range.1 h1
  obtain ⟨h3, h4⟩ := Bool.and_eq_true_iff.1 h2
  rw [Array.getElem?_eq_getElem hlt] at h4
  refine ⟨_, Array.getElem?_eq_getElem hlt, ?_, fun e he hb => ?_⟩
  · unfold lis; rw [Array.getD_eq_getD_getElem?, Array.getElem?_eq_getElem (by omega)]
    rw [Array.getD_eq_getD_getElem?, Array.getElem?_eq_getElem (by omega)] at h3
    simpa using h3
  · simp only [Option.map_some, Option.getD_some] at h4
    have := Array.all_eq_true'.1 h4 e he
    rw [hb, Bool.not_true, Bool.false_or] at this
    exact this
theorem ready_nil {md : Region.Mode} {ops : Array Oper} {listed : Array Bool} (hs : listed.size = ops.size) (hl : lexB ops = true) (h : Region.ready md ops listed = []) : ∀ k, k < ops.size → lis listed k = true := by
  intro k
  induction k using Nat.strongRecOn with
  | _ k ih =>
    intro hk
    cases hb : lis listed k with
    | true => rfl
    | false =>
      exfalso
      have : k ∈ Region.ready md ops listed := by
        unfold Region.ready
        refine List.mem_filter.2 ⟨List.mem_range.2 hk, Bool.and_eq_true_iff.2 ⟨?_, ?_⟩⟩
        · unfold lis at hb
          rw [Array.getD_eq_getD_getElem?, Array.getElem?_eq_getElem (by omega)] at hb ⊢
          simpa using hb
        · rw [Array.getElem?_eq_getElem hk]
          simp only [Option.map_some, Option.getD_some]
          refine Array.all_eq_true'.2 fun e he => ?_
          have h1 := lexB_spec hl (Array.getElem?_eq_getElem hk) e he
          have h2 := ih e.on h1 (by omega)
          unfold lis at h2
          rw [h2, Bool.or_true]
      rw [h] at this
      cases this
def left (listed : Array Bool) : Nat := (listed.toList.filter (fun b => !b)).length
theorem left_set {listed : Array Bool} {i : Nat} (h : i < listed.size) (hf : lis listed i = false) : left (listed.setIfInBounds i true) + 1 = left listed := by
  unfold left lis at *
  rw [Array.getD_eq_getD_getElem?, Array.getElem?_eq_getElem h] at hf
  obtain ⟨l⟩ := listed
  simp only [List.size_toArray] at h
  simp only [List.getElem_toArray, Option.getD_some] at hf
  simp only [List.setIfInBounds_toArray]
  rw [List.set_eq_take_append_cons_drop, if_pos h]
  conv => rhs; rw [← List.take_append_drop i l, List.drop_eq_getElem_cons h, hf]
  simp [List.filter_append, List.filter_cons]
  omega
theorem any_inv {P : Program} {md : Region.Mode} {ops : Array Oper} {Q : Exit → Act → World → Prop} (Inv : (Nat → Bool) → Act → World → Prop) (hl : lexB ops = true)
    (hs : ∀ L a w i o, ops[i]? = some o → L i = false → (∀ e ∈ o.after, Region.binds md e = true → L e.on = true) → Inv L a w → wpOp P ops Q i (Inv (upd L i)) a w)
    (he : ∀ L a w, (∀ k, k < ops.size → L k = true) → Inv L a w → Q .normal a w) :
    ∀ (fuel : Nat) (listed : Array Bool) (a : Act) (w : World), listed.size = ops.size → left listed ≤ fuel → Inv (lis listed) a w → wpAny P md ops Q fuel listed a w := by
  intro fuel
  induction fuel with
  | zero =>
    intro listed a w hn hf h
    have hr : Region.ready md ops listed = [] := by
      rcases hrd : Region.ready md ops listed with _ | ⟨i, r⟩
      · rfl
      · obtain ⟨o, h1, h2, _⟩ := ready_spec hn (show i ∈ Region.ready md ops listed from by rw [hrd]; exact List.mem_cons_self ..)
        have := left_set (by have := (Array.getElem?_eq_some_iff.1 h1).1; omega) h2
        omega
    exact ⟨hr, he _ _ _ (ready_nil hn hl hr) h⟩
  | succ fuel ih =>
    intro listed a w hn hf h
    refine ⟨fun hr => he _ _ _ (ready_nil hn hl hr) h, fun i hi => ?_⟩
    obtain ⟨o, h1, h2, h3⟩ := ready_spec hn hi
    have hlt : i < listed.size := by have := (Array.getElem?_eq_some_iff.1 h1).1; omega
    refine wpOp_mono (fun a' w' h' => ih _ a' w' (by simpa using hn) (by have := left_set hlt h2; omega) ?_) (hs _ _ _ _ _ h1 h2 h3 h)
    rw [lis_upd hlt]
    exact h'
theorem lis_none (n : Nat) : lis (Array.replicate n false) = fun _ => false := by
  funext k; unfold lis
  rw [Array.getD_eq_getD_getElem?, Array.getElem?_replicate]; split <;> rfl
/-- A region that draws its order, by what holds between two operations. -/
theorem region_inv {P : Program} {id : Nat} {ops : Array Oper} {Q : Exit → Act → World → Prop} {a : Act} {w : World} (Inv : (Nat → Bool) → Act → World → Prop) (hm : P.follows .mixedOrders = true) (hl : lexB ops = true)
    (h0 : Inv (fun _ => false) a w.drew)
    (hs : ∀ L a w i o, ops[i]? = some o → L i = false → (∀ e ∈ o.after, Region.binds .any e = true → L e.on = true) → Inv L a w → wpOp P ops Q i (Inv (upd L i)) a w)
    (he : ∀ L a w, (∀ k, k < ops.size → L k = true) → Inv L a w → Q .normal a w) : (Code.region id ops true).wp P Q a w := by
  refine wp_region_any hm (any_inv Inv hl hs he _ _ _ _ (by simp) ?_ ?_)
  · unfold left
    refine Nat.le_trans (List.length_filter_le _ _) (by simp)
  · rw [lis_none]; exact h0
/-- A frame that is another one but for some slots. -/
structure Fr (S : List Nat) (a0 a : Act) : Prop where
  d : a.defers = a0.defers
  n : a.tmps.size = a0.tmps.size
  g : ∀ k, k ∉ S → a.tmps.getD k undef = a0.tmps.getD k undef
theorem Fr.refl (S : List Nat) (a : Act) : Fr S a a := ⟨rfl, rfl, fun _ _ => rfl⟩
theorem slot_get {a : Act} {d k : Nat} {v : Value} (h : d < a.tmps.size) : (a.put (some d) v).tmps.getD k undef = if k = d then v else a.tmps.getD k undef := by
  unfold Act.put
  simp only
  rw [Array.getD_eq_getD_getElem?, Array.getElem?_setIfInBounds]
  by_cases hk : d = k
  · subst hk; simp [h]
  · simp [hk, Ne.symm hk, Array.getD_eq_getD_getElem?]
theorem Fr.put {S : List Nat} {a0 a : Act} {d : Nat} (h : Fr S a0 a) (hd : d ∈ S) (v : Value) : Fr S a0 (a.put (some d) v) := by
  refine ⟨h.d, by unfold Act.put; simpa using h.n, fun k hk => ?_⟩
  by_cases hlt : d < a.tmps.size
  · rw [slot_get hlt, if_neg (fun e => hk (by rw [e]; exact hd))]; exact h.g k hk
  · unfold Act.put
    simp only
    rw [Array.setIfInBounds_eq_of_size_le (by omega)]; exact h.g k hk
theorem Fr.lit {S : List Nat} {a0 a : Act} (h : Fr S a0 a) : a = ⟨S.foldl (fun t k => t.setIfInBounds k (a.tmps.getD k undef)) a0.tmps, a0.defers⟩ := by
  have key : ∀ (S : List Nat) (t : Array Value), t.size = a.tmps.size → (∀ k, k ∉ S → t.getD k undef = a.tmps.getD k undef) → S.foldl (fun t k => t.setIfInBounds k (a.tmps.getD k undef)) t = a.tmps := by
    intro S
    induction S with
    | nil =>
      intro t hn hg
      show t = a.tmps
      refine Array.ext hn fun i h1 h2 => ?_
      have := hg i (by simp)
      rw [Array.getD_eq_getD_getElem?, Array.getD_eq_getD_getElem?, Array.getElem?_eq_getElem h1, Array.getElem?_eq_getElem h2] at this
      simpa using this
    | cons s S ih =>
      intro t hn hg
      refine ih _ (by simpa using hn) fun k hk => ?_
      rw [Array.getD_eq_getD_getElem?, Array.getElem?_setIfInBounds]
      by_cases hsk : s = k
      · subst hsk
        by_cases hlt : s < t.size
        · simp [hlt]
        · rw [if_pos rfl, if_neg hlt, Array.getD_eq_getD_getElem?, Array.getElem?_eq_none (by omega)]
      · rw [if_neg hsk, ← Array.getD_eq_getD_getElem?]
        exact hg k (by simp [hk, Ne.symm hsk])
  have := key S a0.tmps h.n.symm (fun k hk => (h.g k hk).symm)
  obtain ⟨t, d⟩ := a
  have hd := h.d
  simp only at this hd ⊢
  rw [this, hd]
/-- No piece. -/
def Item.none : Item := ⟨fun _ => False, fun _ => True, fun _ _ => trivial, fun _ h => h.elim⟩
theorem Turn.ofNone {w w' : World} {y : Item} (hb : Below w.heap.size w w') (hy : y.P w') (ho : ∀ k, y.own k → w.heap.size ≤ k) : Turn Item.none w y w' := ⟨hy, Keeps.of_below hb _, fun k hk => .inr (ho k hk)⟩
theorem Turn.toNone {w w' : World} {x : Item} (hk : Keeps x.own w w') : Turn x w Item.none w' := ⟨trivial, hk, fun _ h => h.elim⟩
theorem Turn.get {a x : Item} {w w' : World} {L : List Item} {i : Nat} (h : Turn a w (Item.all L) w') (hi : L[i]? = some x) : x.P w' := Item.all_get h.p (List.mem_of_getElem? hi)
theorem Turn.step {a x y : Item} {w w' w'' : World} {L : List Item} {i : Nat} (h : Turn a w (Item.all L) w') (hi : L[i]? = some x) (t : Turn x w' y w'') : Turn a w (Item.all (L.set i y)) w'' := h.trans (Turn.set h.p hi t)
theorem Turn.more {a y : Item} {w w' w'' : World} {L : List Item} (h : Turn a w (Item.all L) w') (hb : Below w'.heap.size w' w'') (hy : y.P w'') (ho : ∀ k, y.own k → w'.heap.size ≤ k) : Turn a w (Item.all (y :: L)) w'' := h.trans (Turn.new h.p hb hy ho)
theorem Turn.nones {w w' : World} {L : List Item} {x : Item} (h : Turn x w (Item.all L) w') : Turn x w (Item.all (Item.none :: L)) w' := h.trans (Turn.new h.p (Below.refl _ _) trivial (fun _ h => h.elim))
theorem Turn.free {x : Item} {w w' : World} (h : Turn (Item.all []) w x w') : Below w.heap.size w w' := h.k.below (Nat.le_refl _) (fun k hk => by obtain ⟨i, hi, _⟩ := hk; cases hi)
end Go.Proofs.Ytnnladfndmdapaa
