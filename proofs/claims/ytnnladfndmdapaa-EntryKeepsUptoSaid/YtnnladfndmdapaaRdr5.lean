/- The reader's methods Int, Bytes, Text, Left, Fault, End, Open: by contract, against a plain reader. -/
import Derived.Test.YtnnladfndmdapaaRdr4
namespace Go.Proofs.Ytnnladfndmdapaa
open Go.RowKit

/-- The plain reader: bytes, a place, a fault. -/
structure Rd where
  l : List UInt8
  at_ : Nat
  f : Int
def Rd.step {α : Type} (r : Rd) (none : α) (x : Except Int (α × Nat)) : α × Rd :=
  if r.f = 0 then
    match x with
    | .ok (a, k) => (a, { r with at_ := r.at_ + k })
    | .error m => (none, { r with f := m })
  else (none, r)
def Rd.int (r : Rd) (low high : Int) : Int × Rd := r.step 0 (numberF low high (r.l.drop r.at_))
def Rd.take (r : Rd) (n : Nat) : Nat × Rd := r.step 0 (takeF n (r.l.drop r.at_))
def Rd.bytes (r : Rd) (most : Int) : List UInt8 × Rd := r.step [] (blockF most (r.l.drop r.at_))
theorem blockF_len {most : Int} {l p : List UInt8} {k : Nat} (h : blockF most l = .ok (p, k)) : p.length ≤ l.length ∧ k ≤ l.length := by
  unfold blockF at h
  by_cases h0 : most < 0
  · rw [if_pos h0] at h; cases h
  · rw [if_neg h0] at h
    cases hn : numberF 0 most l with
    | error e => rw [hn] at h; cases h
    | ok x =>
      obtain ⟨n, j⟩ := x
      rw [hn] at h
      simp only at h
      by_cases h1 : (l.length : Int) - j < n
      · rw [if_pos h1] at h; cases h
      · rw [if_neg h1] at h
        injection h with h
        injection h with h3 h4
        have := numberF_ok hn
        subst h3; subst h4
        refine ⟨by rw [List.length_take, List.length_drop]; omega, by omega⟩
/-- An owned row while a cell of a block of another element type is written. -/
theorem BOwns.setOther {w : World} {base b o : Nat} {v u : Value} {l : List UInt8} {t : TypeId} {cs : Array Value} (h : BOwns w base v l) (hb : Blk w b t cs) (hne : 5 ≠ t) : BOwns (w.setCell ⟨b, o, none⟩ u) base v l := by
  refine World.ownsRow.kept h (row := some b) ⟨rfl, rfl, rfl, by simp [World.setCell], fun k _ hk => Below.heap_setCell w _ u k (fun e => hk (by rw [e]))⟩ ?_
  rcases h.2 with ⟨rfl, _⟩ | ⟨g, cap, cur, rfl, _, hh, _⟩
  · exact .inl rfl
  · refine .inr (fun e => ?_)
    have : g = b := by simpa [Value.ownBlock] using e
    subst this
    unfold Blk at hb
    rw [hb] at hh
    injection hh with hh
    injection hh with _ ht
    exact hne ht.symm
theorem owns_less {w : World} {base base' : Nat} {v : Value} {l : List UInt8} (h : BOwns w base v l) (hb : base' ≤ base) : BOwns w base' v l := by
  refine ⟨h.1, ?_⟩
  rcases h.2 with h2 | ⟨g, cap, cur, hv, hg, r⟩
  · exact .inl h2
  · exact .inr ⟨g, cap, cur, hv, Nat.le_trans hb hg, r⟩

/-- Block g of w is the reader r. -/
def RdIs (w : World) (g : Nat) (r : Rd) : Prop := ∃ A c, RdAt w g A c r.l r.at_ r.f
theorem RdIs.keeps {S : Nat → Prop} {w w' : World} {g : Nat} {r : Rd} (h : RdIs w g r) (hk : Keeps S w w') (hs : ∀ i, S i → g < i) : RdIs w' g r := by
  obtain ⟨A, c, h⟩ := h; exact ⟨A, c, h.keeps hk hs⟩
theorem RdIs.keepsO {S : Nat → Prop} {w w' : World} {g : Nat} {r : Rd} (h : RdIs w g r) (hk : Keeps S w w') (hs : ∀ i, S i → i ≠ g ∧ (g < i ∨ ∃ t cs, Blk w i t cs ∧ 5 ≠ t)) : RdIs w' g r := by
  obtain ⟨A, c, h⟩ := h; exact ⟨A, c, h.keepsO hk hs⟩
theorem RdIs.lt {w : World} {g : Nat} {r : Rd} (h : RdIs w g r) : g < w.heap.size := by obtain ⟨A, c, h⟩ := h; exact h.blk.lt
theorem RdIs.below {w w' : World} {g : Nat} {r : Rd} (h : RdIs w g r) (hb : Below w.heap.size w w') : RdIs w' g r := h.keeps (Keeps.of_below hb (fun _ => False)) (fun _ h => h.elim)
theorem drop_lt {l : List UInt8} {a b : Nat} (ha : a ≤ l.length) (h : b ≤ (l.drop a).length) : a + b ≤ l.length := by rw [List.length_drop] at h; omega

theorem int1_any {w : World} {g br bl bh bn : Nat} {A : Option Addr} {c : Nat} {l : List UInt8} {at_ : Nat} {low high : Int} (HR : RdAt w g A c l at_ 0)
    (h1 : Blk w br 99 #[.pointer (some ⟨g, 0, none⟩)]) (h2 : Blk w bl 3 #[.int .i64 low]) (h3 : Blk w bh 3 #[.int .i64 high]) (h4 : Blk w bn 3 #[.int .i64 0]) (hgn : g < bn) :
    Calls Try.prog 98 #[.pointer (some ⟨br, 0, none⟩), .pointer (some ⟨bl, 0, none⟩), .pointer (some ⟨bh, 0, none⟩), .pointer (some ⟨bn, 0, none⟩)] w fun e w2 => Keeps (fun k => k = g ∨ k = bn) w w2 ∧
      (e = .returned (.tuple #[]) ∧ (∃ n k, numberF low high (l.drop at_) = .ok (n, k) ∧ Blk w2 bn 3 #[.int .i64 n] ∧ RdAt w2 g A c l (at_ + k) 0) ∨
        ∃ m, e = gaveUp m ∧ (numberF low high (l.drop at_) = .error m ∧ Blk w2 bn 3 #[.int .i64 0]) ∧ ∃ at', RdAt w2 g A c l at' 0) := by
  have c1 := h1.cell 0
  have c2 := h2.cell 0
  have c3 := h3.cell 0
  simp at c1 c2 c3
  have H4 := Lib.hid h4
  have H := Lib.hid HR
  have HG := Lib.hid hgn
  clear HR h1 h2 h3 h4 hgn
  go_enter Try.func98, Try.ntmps98
  go_wp2_with fail
  refine (number_any H.out low high).mono ?_
  rintro e w1 ⟨hg, hr⟩
  have K1 := Lib.hid (Keeps.of_grown hg)
  have H5 := Lib.hid (H4.out.keeps K1.out (fun e => by have := HG.out; injection e with e; omega))
  clear hg
  cases hn : numberF low high (l.drop at_) with
  | error m =>
    rw [hn] at hr
    obtain ⟨rfl, at', hr'⟩ := hr
    have R1 := Lib.hid hr'
    have HN := Lib.hid hn
    clear hr' hn
    unfold gaveUp
    go_wp2
    exact ⟨rfl, K1.out.mono (fun i h => .inl (.inl (by injection h))), .inr ⟨m, rfl, ⟨HN.out, H5.out⟩, at', R1.out⟩⟩
  | ok x =>
    obtain ⟨n, k⟩ := x
    rw [hn] at hr
    obtain ⟨rfl, hr'⟩ := hr
    have R1 := Lib.hid hr'
    have c4 := H5.out.cell 0
    have f4 := H5.out.frozen 0
    simp at c4
    have HN := Lib.hid hn
    clear hr' hn
    go_wp2
    go_end0
    refine ⟨(K1.out.mono (fun i h => .inl (.inl (by injection h)))).setCell (.inl (.inr rfl)) _, .inl ⟨rfl, n, k, HN.out, ?_, R1.out.keeps ((Keeps.refl (fun i => i = bn) w1).setCell (.inl rfl) _) (fun i h => by have := HG.out; omega)⟩⟩
    have := H5.out.set_ 0 (.int .i64 n)
    simpa using this

theorem bytes1_any {w : World} {g br bm bb : Nat} {A : Option Addr} {c : Nat} {l : List UInt8} {at_ : Nat} {most : Int} (HR : RdAt w g A c l at_ 0)
    (h1 : Blk w br 99 #[.pointer (some ⟨g, 0, none⟩)]) (h2 : Blk w bm 3 #[.int .i64 most]) (h4 : Blk w bb 23 #[.slice none 0 0]) (hgn : g < bb) :
    Calls Try.prog 100 #[.pointer (some ⟨br, 0, none⟩), .pointer (some ⟨bm, 0, none⟩), .pointer (some ⟨bb, 0, none⟩)] w fun e w2 => Keeps (fun k => k = g ∨ k = bb) w w2 ∧
      (e = .returned (.tuple #[]) ∧ (∃ p k, blockF most (l.drop at_) = .ok (p, k) ∧ (∃ v, Blk w2 bb 23 #[v] ∧ BOwns w2 w.heap.size v p) ∧ RdAt w2 g A c l (at_ + k) 0) ∨
        ∃ m, e = gaveUp m ∧ (blockF most (l.drop at_) = .error m ∧ Blk w2 bb 23 #[.slice none 0 0]) ∧ ∃ at', RdAt w2 g A c l at' 0) := by
  have c1 := h1.cell 0
  have c2 := h2.cell 0
  simp at c1 c2
  have H4 := Lib.hid h4
  have H := Lib.hid HR
  have HG := Lib.hid hgn
  clear HR h1 h2 h4 hgn
  go_enter Try.func100, Try.ntmps100
  go_wp2_with fail
  refine (block_any H.out most).mono ?_
  rintro e w1 ⟨hg, hr⟩
  have K1 := Lib.hid (Keeps.of_grown hg)
  have H5 := Lib.hid (H4.out.keeps K1.out (fun e => by have := HG.out; injection e with e; omega))
  clear hg
  cases hn : blockF most (l.drop at_) with
  | error m =>
    rw [hn] at hr
    obtain ⟨rfl, at', hr'⟩ := hr
    have R1 := Lib.hid hr'
    have HN := Lib.hid hn
    clear hr' hn
    unfold gaveUp
    go_wp2
    exact ⟨rfl, K1.out.mono (fun i h => .inl (.inl (by injection h))), .inr ⟨m, rfl, ⟨HN.out, H5.out⟩, at', R1.out⟩⟩
  | ok x =>
    obtain ⟨p, k⟩ := x
    rw [hn] at hr
    obtain ⟨A', c', rfl, hp, hr'⟩ := hr
    have R1 := Lib.hid hr'
    have P1 := Lib.hid hp
    have HN := Lib.hid hn
    have hle : p.length ≤ 140737488355328 := by
      have e0 := (blockF_len hn).1
      have := H.out.small; rw [List.length_drop] at e0; omega
    clear hr' hn hp
    go_wp2_with fail
    refine (own_any P1.out hle).mono ?_
    rintro e w3 h
    obtain ⟨L, A2, c2', rfl, EL, O2, _, B2⟩ := h.named
    have H6 := Lib.hid (H5.out.below B2.out H5.out.lt)
    have c4 := H6.out.cell 0
    have f4 := H6.out.frozen 0
    simp at c4
    clear h hle
    go_wp2
    go_end0
    have KB := Keeps.of_below B2.out (fun _ => False)
    refine ⟨((K1.out.mono (fun i h => .inl (.inl (by injection h)))).trans KB (fun _ h => h.elim)).setCell (.inl (.inr rfl)) _, .inl ⟨rfl, p, k, HN.out, ⟨.slice A2 L.length c2', ?_, ?_⟩, (R1.out.keeps KB (fun _ h => h.elim)).keeps ((Keeps.refl (fun i => i = bb) w3).setCell (.inl rfl) _) (fun i h => by have := HG.out; omega)⟩⟩
    · have := H6.out.set_ 0 (.slice A2 L.length c2')
      simpa using this
    · rw [EL.out] at O2 ⊢
      have := O2.out.setOther (o := 0) (u := .slice A2 p.length c2') H6.out (by decide)
      exact owns_less this K1.out.size

theorem foldl_push (p : List UInt8) : ∀ s : ByteArray, (p.map fun b => (b.toNat : Int)).foldl (fun r n => r.push (UInt8.ofNat n.toNat)) s = ⟨s.data ++ p.toArray⟩ := by
  induction p with
  | nil => intro s; simp
  | cons b p ih =>
    intro s
    simp only [List.map_cons, List.foldl_cons, ih, Int.toNat_natCast, UInt8.ofNat_toNat]
    congr 1
    show s.data.push b ++ p.toArray = _
    rw [Array.push_eq_append, Array.append_assoc]
    congr 1
    apply Array.ext'
    simp
/-- 'string(b)' of bytes. -/
theorem conv_text {w : World} {B : Nat} {A : Option Addr} {p : List UInt8} (h : BReads w B A p) (c : Nat) :
    (convert 23 9 (.slice A p.length c)).run Try.prog w = .ok (.string ⟨p.toArray⟩) w := by
  rw [run_convert_bytes_string w _ _ 5 A _ c Try.underlying23 Try.underlying5 Try.underlying9]
  cases A with
  | none =>
    have : p = [] := by
      rcases Nat.eq_zero_or_pos p.length with h0 | h0
      · exact List.eq_nil_of_length_eq_zero h0
      · obtain ⟨b, off, e, _⟩ := h.2 h0; cases e
    subst this
    rfl
  | some a =>
    have hf := run_firstCells_some (P := Try.prog) w 1 p.length a p.length c (bys p) h.1 (h.cells rfl)
    have hl : (loadCells a p.length).run Try.prog w = .ok (((p.map fun b => (b.toNat : Int)).map (Value.int .u8)).toArray) w := by
      have e : ((p.map fun b => (b.toNat : Int)).map (Value.int .u8)) = bys p := by simp [bys]
      rw [e]
      simpa [Builtin.firstCells] using hf
    rw [run_bytesToString w a p.length c _ hl, foldl_push]
    rw [show (ByteArray.empty.data ++ p.toArray) = p.toArray from by simp [ByteArray.empty, ByteArray.emptyWithCapacity]; rfl]
/-- The store of a text: '[]byte' to string. -/
theorem text1_any {w : World} {g br bm bb : Nat} {A : Option Addr} {c : Nat} {l : List UInt8} {at_ : Nat} {most : Int} (HR : RdAt w g A c l at_ 0)
    (h1 : Blk w br 99 #[.pointer (some ⟨g, 0, none⟩)]) (h2 : Blk w bm 3 #[.int .i64 most]) (h4 : Blk w bb 9 #[.string ⟨#[]⟩]) (hgn : g < bb) :
    Calls Try.prog 96 #[.pointer (some ⟨br, 0, none⟩), .pointer (some ⟨bm, 0, none⟩), .pointer (some ⟨bb, 0, none⟩)] w fun e w2 => Keeps (fun k => k = g ∨ k = bb) w w2 ∧
      (e = .returned (.tuple #[]) ∧ (∃ p k, blockF most (l.drop at_) = .ok (p, k) ∧ Blk w2 bb 9 #[.string ⟨p.toArray⟩] ∧ RdAt w2 g A c l (at_ + k) 0) ∨
        ∃ m, e = gaveUp m ∧ (blockF most (l.drop at_) = .error m ∧ Blk w2 bb 9 #[.string ⟨#[]⟩]) ∧ ∃ at', RdAt w2 g A c l at' 0) := by
  have c1 := h1.cell 0
  have c2 := h2.cell 0
  simp at c1 c2
  have H4 := Lib.hid h4
  have H := Lib.hid HR
  have HG := Lib.hid hgn
  clear HR h1 h2 h4 hgn
  go_enter Try.func96, Try.ntmps96
  go_wp2_with fail
  refine (block_any H.out most).mono ?_
  rintro e w1 ⟨hg, hr⟩
  have K1 := Lib.hid (Keeps.of_grown hg)
  have H5 := Lib.hid (H4.out.keeps K1.out (fun e => by have := HG.out; injection e with e; omega))
  clear hg
  cases hn : blockF most (l.drop at_) with
  | error m =>
    rw [hn] at hr
    obtain ⟨rfl, at', hr'⟩ := hr
    have R1 := Lib.hid hr'
    have HN := Lib.hid hn
    clear hr' hn
    unfold gaveUp
    go_wp2
    exact ⟨rfl, K1.out.mono (fun i h => .inl (.inl (by injection h))), .inr ⟨m, rfl, ⟨HN.out, H5.out⟩, at', R1.out⟩⟩
  | ok x =>
    obtain ⟨p, k⟩ := x
    rw [hn] at hr
    obtain ⟨A', c', rfl, hp, hr'⟩ := hr
    have R1 := Lib.hid hr'
    have P1 := Lib.hid hp
    have HN := Lib.hid hn
    have c4 := H5.out.cell 0
    have f4 := H5.out.frozen 0
    simp at c4
    have kc := conv_text hp c'
    clear hr' hn hp
    obtain ⟨n, hn⟩ : ∃ n, n = p.length := ⟨_, rfl⟩
    obtain ⟨s, hs⟩ : ∃ s : ByteArray, s = ⟨p.toArray⟩ := ⟨_, rfl⟩
    rw [← hn, ← hs] at kc
    rw [← hn]
    have HS := Lib.hid hs
    clear hn hs
    go_wp2
    go_end0
    refine ⟨(K1.out.mono (fun i h => .inl (.inl (by injection h)))).setCell (.inl (.inr rfl)) _, .inl ⟨rfl, p, k, HN.out, ?_, R1.out.keeps ((Keeps.refl (fun i => i = bb) w1).setCell (.inl rfl) _) (fun i h => by have := HG.out; omega)⟩⟩
    have := H5.out.set_ 0 (.string s)
    rw [← HS.out]
    simpa using this

/-- What a method of a reader leaves: what it answers, the reader behind it, all else as it was. -/
def RdPost {α : Type} (w : World) (g : Nat) (x : α × Rd) (ans : α → Ending → World → Prop) (e : Ending) (w' : World) : Prop :=
  ans x.1 e w' ∧ RdIs w' g x.2 ∧ Keeps (fun k => k = g) w w'
theorem RdPost.out {α : Type} {w : World} {g : Nat} {x : α × Rd} {ans : α → Ending → World → Prop} {e : Ending} {w' : World} (h : RdPost w g x ans e w') : ans x.1 e w' ∧ RdIs w' g x.2 ∧ Keeps (fun k => k = g) w w' := h

def AnsBytes (w : World) (p : List UInt8) (e : Ending) (w' : World) : Prop := ∃ v, e = .returned v ∧ BOwns w' w.heap.size v p
def AnsText (p : List UInt8) (e : Ending) (_ : World) : Prop := e = .returned (.string ⟨p.toArray⟩)
def AnsK (k : IntKind) (n : Nat) (e : Ending) (_ : World) : Prop := e = .returned (.int k n)
def AnsInt (n : Int) (e : Ending) (_ : World) : Prop := e = .returned (.int .i64 n)

theorem callFunc_enter (F : FuncId) (fn : Func) (c : Code) (hf : Try.prog.funcs[F]? = some fn) (hb : fn.body = some c) (hn : (fn.name == "runtime.NumGoroutine") = false) (caps : Array Value) (w : World) : (callFunc F caps).run Try.prog w = .ok (.enter F caps) w := by
  have hn' : ¬ fn.name = "runtime.NumGoroutine" := by simpa using hn
  simp [callFunc, hf, hb, hn']
theorem RdAt.alloc {w : World} {g : Nat} {A : Option Addr} {c : Nat} {l : List UInt8} {at_ : Nat} {f : Int} (h : RdAt w g A c l at_ f) (o : Obj) : RdAt (w.alloc o) g A c l at_ f :=
  h.keeps ((Keeps.refl (fun _ => False) w).alloc o) (fun _ h => h.elim)
theorem RdAt.below {w w' : World} {g : Nat} {A : Option Addr} {c : Nat} {l : List UInt8} {at_ : Nat} {f : Int} (h : RdAt w g A c l at_ f) (hb : Below w.heap.size w w') : RdAt w' g A c l at_ f :=
  h.keeps (Keeps.of_below hb (fun _ => False)) (fun _ h => h.elim)
theorem Blk.below' {w w' : World} {g : Nat} {t : TypeId} {cs : Array Value} (h : Blk w g t cs) (hb : Below w.heap.size w w') : Blk w' g t cs := h.below hb h.lt
theorem RdAt.drew {w : World} {g : Nat} {A : Option Addr} {c : Nat} {l : List UInt8} {at_ : Nat} {f : Int} (h : RdAt w g A c l at_ f) : RdAt w.drew g A c l at_ f := ⟨h.blk, h.reads, h.cap, h.le, h.small, h.ours⟩
end Go.Proofs.Ytnnladfndmdapaa
