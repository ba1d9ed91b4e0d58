/- reading: the deferred closure that recovers; by a contract for whatever closure it calls. -/
import Derived.Test.YtnnladfndmdapaaRdr3
namespace Go.Proofs.Ytnnladfndmdapaa
open Go.RowKit

/-- w' is w with new blocks, and with writes to the blocks of S alone. -/
structure Keeps (S : Nat → Prop) (w w' : World) : Prop where
  os : w'.os = w.os
  tape : w'.tape = w.tape
  output : w'.output = w.output
  size : w.heap.size ≤ w'.heap.size
  block : ∀ k, k < w.heap.size → ¬ S k → w'.heap[k]? = w.heap[k]?
theorem Keeps.refl (S : Nat → Prop) (w : World) : Keeps S w w := ⟨rfl, rfl, rfl, Nat.le_refl _, fun _ _ _ => rfl⟩
theorem Keeps.trans {S S' : Nat → Prop} {a b c : World} (h : Keeps S a b) (k : Keeps S' b c) (hs : ∀ i, S' i → S i ∨ a.heap.size ≤ i) : Keeps S a c :=
  ⟨k.os.trans h.os, k.tape.trans h.tape, k.output.trans h.output, Nat.le_trans h.size k.size, fun i hi hn => (k.block i (Nat.lt_of_lt_of_le hi h.size) (fun e => (hs i e).elim hn (fun h => by omega))).trans (h.block i hi hn)⟩
theorem Keeps.of_grown {w w' : World} {row : Option Nat} (h : w.grownBy w' row) : Keeps (fun k => some k = row) w w' := ⟨h.os, h.tape, h.output, h.size, fun k hk hn => h.block k hk hn⟩
theorem Keeps.of_below {w w' : World} (h : Below w.heap.size w w') (S : Nat → Prop) : Keeps S w w' := ⟨h.os, h.tape, h.output, h.size, fun k hk _ => h.block k hk⟩
theorem Keeps.mono {S S' : Nat → Prop} {w w' : World} (h : Keeps S w w') (hs : ∀ i, S i → S' i ∨ w.heap.size ≤ i) : Keeps S' w w' :=
  ⟨h.os, h.tape, h.output, h.size, fun i hi hn => h.block i hi (fun e => (hs i e).elim hn (fun h => by omega))⟩
theorem Keeps.below {S : Nat → Prop} {w w' : World} {B : Nat} (h : Keeps S w w') (hB : B ≤ w.heap.size) (hs : ∀ i, S i → B ≤ i) : Below B w w' :=
  ⟨h.os, h.tape, h.output, h.size, fun k hk => h.block k (by omega) (fun e => by have := hs k e; omega)⟩
theorem Keeps.alloc {S : Nat → Prop} {a w : World} (h : Keeps S a w) (o : Obj) : Keeps S a (w.alloc o) :=
  ⟨h.os, h.tape, h.output, Nat.le_trans h.size (by simp), fun k hk hn => (heap_old w o k (Nat.lt_of_lt_of_le hk h.size)).trans (h.block k hk hn)⟩
theorem Keeps.setCell {S : Nat → Prop} {a w : World} (h : Keeps S a w) {p : Addr} (hp : S p.block ∨ a.heap.size ≤ p.block) (u : Value) : Keeps S a (w.setCell p u) :=
  ⟨h.os, h.tape, h.output, by simpa [World.setCell] using h.size, fun k hk hn => (Below.heap_setCell w p u k (fun e => by subst e; exact hp.elim hn (fun h => by omega))).trans (h.block k hk hn)⟩
theorem Keeps.drewN {S : Nat → Prop} {a w : World} (h : Keeps S a w) (m : Nat) : Keeps S a (w.drewN m) := ⟨h.os, h.tape, h.output, h.size, h.block⟩
theorem Blk.keeps {S : Nat → Prop} {w w' : World} {g : Nat} {t : TypeId} {cs : Array Value} (h : Blk w g t cs) (hk : Keeps S w w') (hg : ¬ S g) : Blk w' g t cs := (hk.block g h.lt hg).trans h
theorem RdAt.keeps {S : Nat → Prop} {w w' : World} {g : Nat} {A : Option Addr} {c : Nat} {l : List UInt8} {at_ : Nat} {f : Int} (h : RdAt w g A c l at_ f) (hk : Keeps S w w') (hs : ∀ i, S i → g < i) : RdAt w' g A c l at_ f :=
  ⟨h.blk.keeps hk (fun e => by have := hs _ e; omega), h.reads.below (hk.below (Nat.le_of_lt h.blk.lt) (fun i hi => Nat.le_of_lt (hs i hi))), h.cap, h.le, h.small, h.ours.keep h.reads (fun i hi => hk.block i (Nat.lt_trans hi h.blk.lt) (fun e => by have := hs i e; omega))⟩
/-- A reader while blocks are written that are not its own: later blocks, or blocks of another element type. -/
theorem RdAt.keepsO {S : Nat → Prop} {w w' : World} {g : Nat} {A : Option Addr} {c : Nat} {l : List UInt8} {at_ : Nat} {f : Int} (h : RdAt w g A c l at_ f) (hk : Keeps S w w')
    (hs : ∀ i, S i → i ≠ g ∧ (g < i ∨ ∃ t cs, Blk w i t cs ∧ 5 ≠ t)) : RdAt w' g A c l at_ f := by
  have hn : ∀ b o cur fr, A = some ⟨b, o, none⟩ → b < g → w.heap[b]? = some (.cells cur 5 fr) → ¬ S b := fun b o cur fr _ hb hh hS => by
    rcases (hs b hS).2 with h1 | ⟨t, cs, h2, h3⟩
    · omega
    · unfold Blk at h2; rw [hh] at h2; injection h2 with h2; injection h2 with _ h2; exact h3 h2
  refine ⟨h.blk.keeps hk (fun e => (hs g e).1 rfl), ⟨h.reads.1, fun hp => ?_⟩, h.cap, h.le, h.small, fun hp => ?_⟩
  · obtain ⟨b, o, e, hb, hc⟩ := h.reads.2 hp
    obtain ⟨b', o', cur, fr, e', hh⟩ := h.ours hp
    rw [e] at e'
    injection e' with e'
    injection e' with e1 e2 _
    subst e1; subst e2
    have hkb := hk.block b (Nat.lt_trans hb h.blk.lt) (hn b o cur fr e hb hh)
    exact ⟨b, o, e, hb, fun j u hu => (World.cell?_of_block hkb).trans (hc j u hu)⟩
  · obtain ⟨b, o, e, hb, hc⟩ := h.reads.2 hp
    obtain ⟨b', o', cur, fr, e', hh⟩ := h.ours hp
    rw [e] at e'
    injection e' with e'
    injection e' with e1 e2 _
    subst e1; subst e2
    exact ⟨b, o, cur, fr, e, (hk.block b (Nat.lt_trans hb h.blk.lt) (hn b o cur fr e hb hh)).trans hh⟩
theorem RdAt.faulted {w : World} {g : Nat} {A : Option Addr} {c : Nat} {l : List UInt8} {at_ : Nat} {f : Int} (h : RdAt w g A c l at_ f) (k : Nat) (hk : k ≤ l.length) (m : Int) :
    RdAt ((w.setCell ⟨g, 1, none⟩ (.int .i64 (k : Int))).setCell ⟨g, 2, none⟩ (.int .i64 m)) g A c l k m := by
  refine ⟨?_, ?_, h.cap, hk, h.small, h.ours.keep h.reads (fun i hi => (Below.heap_setCell _ ⟨g, 2, none⟩ _ i (by show i ≠ g; omega)).trans (Below.heap_setCell w ⟨g, 1, none⟩ _ i (by show i ≠ g; omega)))⟩
  · have := (h.blk.set_ 1 (.int .i64 (k : Int))).set_ 2 (.int .i64 m)
    simpa using this
  · exact Reads.setCell (p := ⟨g, 2, none⟩) (Reads.setCell (p := ⟨g, 1, none⟩) h.reads (Nat.le_refl _) _) (Nat.le_refl _) _

/-- A reader that is not there, or that has a fault: nothing is called. -/
theorem reading_none {w : World} (fv : Value) : Calls Try.prog 93 #[.pointer none, fv] w fun e w' => e = .returned (.tuple #[]) ∧ Below w.heap.size w w' := by
  go_enter_defers Try.func93, Try.ntmps93
  go_wp2
  simp [bodyPostD, Leaves, results, Try.results93]
  exact (Below.refl _ _).alloc (Nat.le_refl _) _
theorem reading_fault {w : World} {g : Nat} {A : Option Addr} {c : Nat} {l : List UInt8} {at_ : Nat} {f : Int} (HR : RdAt w g A c l at_ f) (hf : ¬ f = 0) (fv : Value) :
    Calls Try.prog 93 #[.pointer (some ⟨g, 0, none⟩), fv] w fun e w' => e = .returned (.tuple #[]) ∧ Below w.heap.size w w' := by
  have hlt := HR.blk.lt
  have h2 : (w.alloc (.cells #[.pointer (some ⟨g, 0, none⟩)] 99)).cell? ⟨g, 2, none⟩ = some (.int .i64 f) := by
    have := (HR.blk.alloc (.cells #[.pointer (some ⟨g, 0, none⟩)] 99)).cell 2
    simpa using this
  have hb : ((f : Int) != 0) = true := by simpa using hf
  clear HR
  go_enter_defers Try.func93, Try.ntmps93
  go_wp2
  simp [bodyPostD, Leaves, results, Try.results93]
  exact (Below.refl _ _).alloc (Nat.le_refl _) _
set_option maxRecDepth 100000 in
theorem reading_any {w : World} {g : Nat} {A : Option Addr} {c : Nat} {l : List UInt8} {at_ : Nat} (HR : RdAt w g A c l at_ 0) (F : FuncId) (caps : Array Value) (S : Nat → Prop) (hS : ∀ k, S k → k < w.heap.size) (hg : S g)
    (hcall : ∀ w' : World, (callFunc F caps).run Try.prog w' = .ok (.enter F caps) w') (Ok : World → Prop) (Bad : Int → World → Prop)
    (hdo : ∀ w1, Below w.heap.size w w1 → Calls Try.prog F caps w1 fun e w2 => Keeps S w1 w2 ∧ (e = .returned (.tuple #[]) ∧ Ok w2 ∨ ∃ m, e = gaveUp m ∧ Bad m w2 ∧ ∃ at', RdAt w2 g A c l at' 0)) :
    Calls Try.prog 93 #[.pointer (some ⟨g, 0, none⟩), .func (.func F) #[] caps] w fun e w' => e = .returned (.tuple #[]) ∧ Keeps S w w' ∧
      (Ok w' ∨ ∃ m w2, Bad m w2 ∧ Keeps S w w2 ∧ w' = (w2.setCell ⟨g, 1, none⟩ (.int .i64 at_)).setCell ⟨g, 2, none⟩ (.int .i64 m) ∧ ∃ at', RdAt w2 g A c l at' 0) := by
  have hlt := HR.blk.lt
  have h1 : (w.alloc (.cells #[.pointer (some ⟨g, 0, none⟩)] 99)).cell? ⟨g, 1, none⟩ = some (.int .i64 at_) := by
    have := (HR.blk.alloc (.cells #[.pointer (some ⟨g, 0, none⟩)] 99)).cell 1
    simpa using this
  have h2 : (w.alloc (.cells #[.pointer (some ⟨g, 0, none⟩)] 99)).cell? ⟨g, 2, none⟩ = some (.int .i64 0) := by
    have := (HR.blk.alloc (.cells #[.pointer (some ⟨g, 0, none⟩)] 99)).cell 2
    simpa using this
  have hmf : ∀ (fn : Fn) (first cap : Array Value) (w : World), (Instr.makeFunc fn first cap).run Try.prog w = .ok (.func fn first cap) w := fun _ _ _ _ => rfl
  have H := Lib.hid HR
  have HDO := Lib.hid hdo
  have HS := Lib.hid hS
  clear HR hdo hS
  go_enter_defers Try.func93, Try.ntmps93
  go_wp2
  have B1 := Lib.hid (((Below.refl _ _).alloc (Nat.le_refl _) (.cells #[.pointer (some ⟨g, 0, none⟩)] 99)).alloc (by simp) (.cells #[.int .i64 at_] 3) : Below w.heap.size w _)
  have R1 := Lib.hid (Blk.alloc (Blk.new w 99 #[.pointer (some ⟨g, 0, none⟩)]) (.cells #[.int .i64 at_] 3))
  have N1 := Lib.hid (Blk.new (w.alloc (.cells #[.pointer (some ⟨g, 0, none⟩)] 99)) 3 #[.int .i64 at_])
  refine (HDO.out _ B1.out).mono ?_
  rintro e w2 ⟨hk, h⟩
  have K2 := Lib.hid (((Keeps.refl S w).alloc _).alloc _ |>.trans hk (fun i hi => .inl hi))
  have R2 := Lib.hid (R1.out.keeps hk (fun e => by have := HS.out _ e; omega))
  have N2 := Lib.hid (N1.out.keeps hk (fun e => by have := HS.out _ e; simp at this; omega))
  clear hk
  rcases h with ⟨rfl, hok⟩ | ⟨m, rfl, hbad, at', hr⟩
  · have HOK := Lib.hid hok
    clear hok
    go_wp2
    refine leaves_cons (f := 114) (args := #[.pointer (some ⟨w.heap.size + 1, 0, none⟩), .pointer (some ⟨w.heap.size, 0, none⟩)]) (by simp) (by simp [go_sem]) ?_
    refine (reading1_idle _ _ _).mono ?_
    rintro e u' w'' ⟨rfl, rfl, rfl⟩
    simp [Leaves, settle, results, Try.results93]
    exact ⟨K2.out, .inl HOK.out⟩
  · have HB := Lib.hid hbad
    have HR := Lib.hid hr
    clear hbad hr
    unfold gaveUp
    go_wp2
    refine leaves_cons (f := 114) (args := #[.pointer (some ⟨w.heap.size + 1, 0, none⟩), .pointer (some ⟨w.heap.size, 0, none⟩)]) (by simp) (by simp [go_sem]) ?_
    refine (reading1_catch (w.heap.size + 1) w.heap.size g at' m at_ [] _ w2 (by simpa using N2.out) R2.out HR.out.blk).mono ?_
    rintro e u' w'' ⟨rfl, rfl, rfl⟩
    simp [Leaves, settle, results, Try.results93]
    exact ⟨(K2.out.setCell (.inl hg) _).setCell (.inl hg) _, .inr ⟨m, w2, HB.out, K2.out, rfl, at', HR.out⟩⟩
end Go.Proofs.Ytnnladfndmdapaa
