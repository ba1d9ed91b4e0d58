/- Contracts and plain laws that this claim leans on, laid together: Rco. -/
import Derived.Test.YtmnpchncmbnddaaG15
import Derived.Test.YtmnpchncmbnddaaG16
set_option linter.all false
set_option linter.unusedVariables false
set_option linter.unusedSimpArgs false
set_option linter.unnecessarySimpa false
/- The reference's Commit, by contract. -/
namespace Go.Proofs.Ytmnpchncmbnddaa
open Go.RowKit

def RcPost (l : List En) (m : Int) (w : World) (e : Ending) (w' : World) : Prop :=
  comG m [] l = none ∧ e = .returned (.tuple #[.slice none 0 0, .int .i64 0]) ∧ Below w.heap.size w w' ∨
  ∃ (p : List En) (A : Option Addr) (n c : Nat) (hs : List Hv), comG m [] l = some p ∧ n = p.length ∧ hs.map Hv.x = p.map (wOf m) ∧ e = .returned (.tuple #[.slice A n c, .int .i64 (n + 1 : Nat)]) ∧ Turn (Item.all []) w (Item.all [gV A n c hs]) w'
/-- What holds while the writes of a group are gone through. -/
def RcIn (w : World) (l : List En) (m : Int) (g : Nat) (x : En) (Av : Option Addr) (cv i c' : Nat) (A' : Option Addr) (wr : World) : Prop :=
  ∃ hs : List Hv, hs.map Hv.x = (l.take i).map (wOf m) ∧ GoodTo l i ∧ Turn (Item.all []) w (Item.all [Item.blk g 26 (x.cells Av cv), gV A' i c' hs]) wr
theorem ver_kind (e : En) : e.version.2 = decide (e.kind = 1 ∨ e.kind = 2 ∨ e.kind = 5) := by
  unfold En.version
  split
  · rename_i h; simp [h]
  · split
    · rename_i h; simp [h]
    · split
      · rename_i h; simp [h]
      · rename_i h1 h2 h5
        exact (decide_eq_false (by rintro (h | h | h); exact h1 h; exact h2 h; exact h5 h)).symm
set_option maxRecDepth 100000 in
set_option maxHeartbeats 25600000 in
theorem rcommit_any {w : World} {A : Option Addr} {c : Nat} {l : List En} {now m : Int} (hS : kEn.Sl w w.heap.size A l) (hl : l.length ≤ 16777216) (hks : ∀ e ∈ l, e.key.size ≤ 1099511627776 ∧ e.value.length ≤ 1099511627776) (hm : IntKind.i64.wrap (now + 1) = m) :
    Calls Try.prog 30 #[.slice A l.length c, .int .i64 now] w (RcPost l m w) := by
  have HS := Lib.hid hS
  have HKS := Lib.hid hks
  obtain ⟨M, hM⟩ : ∃ M, M = l.length := ⟨_, rfl⟩
  have HM := Lib.hid hM
  rw [← hM] at hl ⊢
  clear hS hks hM
  go_enter Try.func30, Try.ntmps30
  go_wp2
  go_loopw [6] (fun t wr => ∃ K : Nat, t = .int .i64 K ∧ 1 ≤ K ∧ K ≤ M + 1 ∧ Hid ((∀ i, 1 ≤ i → i < K → ∀ hl : i < l.length, l[i].kind ≠ 3) ∧ Below w.heap.size w wr)) (fun t _ => M + 1 - (intOf t).toNat)
  case atStart => exact ⟨1, rfl, Nat.le_refl _, by omega, Lib.hid ⟨fun i h1 h2 => by omega, Below.refl _ _⟩⟩
  case round =>
    obtain ⟨K, rfl, hK1, hK2, hH⟩ := hrel
    by_cases hlt : (K : Int) < (M : Int)
    · have hKl : K < l.length := by have := HM.out; omega
      have hKM : K < M := by omega
      obtain ⟨bb, off, Av, cv, hA, hbb, hints, s0, s1, s2, s3, s4, s5, hval⟩ := en_at (HS.out.below hH.out.2) hKl
      subst hA
      obtain ⟨x, hx⟩ : ∃ x, x = l[K] := ⟨_, rfl⟩
      have hxb := HKS.out x (by rw [hx]; exact List.getElem_mem _)
      rw [← hx] at s0 s1 s2 s3 s4 s5
      have HX := Lib.hid hx
      obtain ⟨k, st, nn, key, v, dd⟩ := x
      simp only at s0 s1 s2 s3 s4 s5 hxb
      have hbr : bb < wr.heap.size := Nat.lt_of_lt_of_le hbb hH.out.2.size
      have hxb1 := hxb.1
      have hxb2 := hxb.2
      have HCK := Lib.hid (fun (W : World) => rcheck_any (w := W) (A := Av) (c := cv) ⟨k, st, nn, key, v, dd⟩ (by simp only; omega) (by simp only; omega))
      rw [show En.cells ⟨k, st, nn, key, v, dd⟩ Av cv = #[.int .i64 k, .int .i64 st, .int .i64 nn, .string key, .slice Av v.length cv, .bool dd] from rfl] at HCK
      obtain ⟨w1, hw1⟩ : ∃ y, y = wr.alloc (.cells #[.int .i64 k, .int .i64 st, .int .i64 nn, .string key, .slice Av v.length cv, .bool dd] 26) := ⟨_, rfl⟩
      obtain ⟨g, hg⟩ : ∃ g, g = wr.heap.size := ⟨_, rfl⟩
      have HW1 := Lib.hid hw1
      have T1 := Lib.hid (show Turn (Item.all []) w (Item.all [Item.blk g 26 #[.int .i64 k, .int .i64 st, .int .i64 nn, .string key, .slice Av v.length cv, .bool dd]]) w1 from by
        rw [hw1, hg]
        exact ((Turn.none_ (w := w)).go hH.out.2).more (y := Item.blk wr.heap.size 26 #[.int .i64 k, .int .i64 st, .int .i64 nn, .string key, .slice Av v.length cv, .bool dd]) ((Below.refl _ _).alloc (Nat.le_refl _) _) (Blk.new _ _ _) (fun k hk => Nat.le_of_eq hk.symm))
      have HH := Lib.hid hH.out.1
      clear hH hx hxb hval hints hbb hw1
      go_upto_region 5 with fail
      rw [← HW1.out]
      rw [← hg]
      clear HW1 hg s0 s1 s2 s3 s4 s5 hbr
      have q0 := Blk.cell (show Blk w1 g _ #[.int .i64 k, .int .i64 st, .int .i64 nn, .string key, .slice Av v.length cv, .bool dd] from T1.out.get (i := 0) rfl) 0
      have q1 := Blk.cell (show Blk w1 g _ #[.int .i64 k, .int .i64 st, .int .i64 nn, .string key, .slice Av v.length cv, .bool dd] from T1.out.get (i := 0) rfl) 1
      have q2 := Blk.cell (show Blk w1 g _ #[.int .i64 k, .int .i64 st, .int .i64 nn, .string key, .slice Av v.length cv, .bool dd] from T1.out.get (i := 0) rfl) 2
      have q3 := Blk.cell (show Blk w1 g _ #[.int .i64 k, .int .i64 st, .int .i64 nn, .string key, .slice Av v.length cv, .bool dd] from T1.out.get (i := 0) rfl) 3
      have q4 := Blk.cell (show Blk w1 g _ #[.int .i64 k, .int .i64 st, .int .i64 nn, .string key, .slice Av v.length cv, .bool dd] from T1.out.get (i := 0) rfl) 4
      have q5 := Blk.cell (show Blk w1 g _ #[.int .i64 k, .int .i64 st, .int .i64 nn, .string key, .slice Av v.length cv, .bool dd] from T1.out.get (i := 0) rfl) 5
      simp only [List.getElem?_toArray, List.getElem?_cons_zero, List.getElem?_cons_succ] at q0 q1 q2 q3 q4 q5
      by_cases h3 : k = 3
      · subst h3
        obtain ⟨R, hR⟩ : ∃ R, R = En.chk ⟨3, st, nn, key, v, dd⟩ := ⟨_, rfl⟩
        rw [← hR] at HCK
        have HR := Lib.hid hR
        have HEN := Lib.hid (fun he : ¬ EndAt m K ⟨3, st, nn, key, v, dd⟩ => comG_end_no hKl HX.out hK1 rfl HH.out he)
        clear hR
        go_wp2_with fail
        refine (HCK.out _).mono ?_
        rintro e w2 ⟨rfl, hb2⟩
        have T2 := Lib.hid (T1.out.go hb2)
        clear q0 q1 q2 q3 q4 q5 hb2 T1
        have q1 := Blk.cell (show Blk w2 g _ #[.int .i64 3, .int .i64 st, .int .i64 nn, .string key, .slice Av v.length cv, .bool dd] from T2.out.get (i := 0) rfl) 1
        have q2 := Blk.cell (show Blk w2 g _ #[.int .i64 3, .int .i64 st, .int .i64 nn, .string key, .slice Av v.length cv, .bool dd] from T2.out.get (i := 0) rfl) 2
        simp only [List.getElem?_toArray, List.getElem?_cons_zero, List.getElem?_cons_succ] at q1 q2
        by_cases hr0 : R = 0
        rotate_left
        · have HRE := Lib.hid (show RcPost l m w (.returned (.tuple #[.slice none 0 0, .int .i64 0])) w2 from .inl ⟨HEN.out (fun h => hr0 (HR.out.trans h.1)), rfl, T2.out.free⟩)
          have e1 : decide (R = 0) = false := decide_eq_false hr0
          have e1n : (R != 0) = true := bne_iff_ne.2 hr0
          clear hr0 T2
          go_wp2
          go_ret2
          exact HRE.out
        have HR0 := Lib.hid (HR.out.symm.trans hr0)
        subst hr0
        by_cases hs : st = m
        rotate_left
        · have HRE := Lib.hid (show RcPost l m w (.returned (.tuple #[.slice none 0 0, .int .i64 0])) w2 from .inl ⟨HEN.out (fun h => hs h.2.1), rfl, T2.out.free⟩)
          have e1 : decide (st = m) = false := decide_eq_false hs
          have e1n : (st != m) = true := bne_iff_ne.2 hs
          clear hs T2
          go_wp2
          go_ret2
          exact HRE.out
        have hs' := hs.symm
        clear hs
        subst hs'
        by_cases hn : nn = (K : Int)
        rotate_left
        · have HRE := Lib.hid (show RcPost l m w (.returned (.tuple #[.slice none 0 0, .int .i64 0])) w2 from .inl ⟨HEN.out (fun h => hn h.2.2), rfl, T2.out.free⟩)
          have e1 : decide (nn = (K : Int)) = false := decide_eq_false hn
          have e1n : (nn != (K : Int)) = true := bne_iff_ne.2 hn
          clear hn T2
          go_wp2
          go_ret2
          exact HRE.out
        subst hn
        have HEA := Lib.hid (show EndAt m K ⟨3, m, K, key, v, dd⟩ from ⟨HR0.out, rfl, rfl⟩)
        have T3 := Lib.hid (show RcIn w l m g ⟨3, m, K, key, v, dd⟩ Av cv 0 0 none w2 from ⟨[], rfl, .zero, (T2.out.more (y := gV none 0 0 []) (Below.refl _ _) gV_nil (fun k hk => by
          obtain ⟨i, hi, hk⟩ := hk
          rcases List.mem_cons.1 hi with rfl | hi
          · cases hk
          · cases hi)).by_ 2 rfl [1, 0] (by decide)⟩)
        clear T2 HEN HCK HR
        go_wp2
        clear q1 q2
        go_loopw [9, 8] (fun t u wr => ∃ (i c' : Nat) (A' : Option Addr), t = .int .i64 i ∧ u = .slice A' i c' ∧ i ≤ K ∧ Hid (RcIn w l m g ⟨3, m, K, key, v, dd⟩ Av cv i c' A' wr)) (fun t _ _ => K - (intOf t).toNat)
        case atStart => exact ⟨0, 0, none, rfl, rfl, Nat.zero_le _, T3⟩
        case round =>
          clear T3
          obtain ⟨i, c', A', rfl, rfl, hi, hH⟩ := hrel
          by_cases hlt2 : (i : Int) < (K : Int)
          · have hil : i < l.length := by omega
            have hii : i + 1 ≤ K := by omega
            have hiM : i < M := by omega
            obtain ⟨hs, hhs, hgd, hT⟩ := hH.out
            have HGD := Lib.hid (And.intro hhs hgd)
            have hbw := hT.free
            obtain ⟨bb2, off2, Av2, cv2, hA, hbb, hints, s0, s1, s2, s3, s4, s5, hval⟩ := en_at (HS.out.below hbw) hil
            injection hA with hA
            injection hA with e1 e2
            subst e1; subst e2
            obtain ⟨x2, hx2⟩ : ∃ x, x = l[i] := ⟨_, rfl⟩
            have hxb := HKS.out x2 (by rw [hx2]; exact List.getElem_mem _)
            rw [← hx2] at s0 s1 s2 s3 s4 s5 hval
            have HX2 := Lib.hid hx2
            obtain ⟨k2, st2, nn2, key2, v2, dd2⟩ := x2
            simp only at s0 s1 s2 s3 s4 s5 hxb hval
            have hbr : bb < wr.heap.size := Nat.lt_of_lt_of_le hbb hbw.size
            have hyb1 := hxb.1
            have hyb2 := hxb.2
            have HCK2 := Lib.hid (fun (W : World) => rcheck_any (w := W) (A := Av2) (c := cv2) ⟨k2, st2, nn2, key2, v2, dd2⟩ (by simp only; omega) (by simp only; omega))
            obtain ⟨R, hR⟩ : ∃ R, R = En.chk ⟨k2, st2, nn2, key2, v2, dd2⟩ := ⟨_, rfl⟩
            rw [← hR, show En.cells ⟨k2, st2, nn2, key2, v2, dd2⟩ Av2 cv2 = #[.int .i64 k2, .int .i64 st2, .int .i64 nn2, .string key2, .slice Av2 v2.length cv2, .bool dd2] from rfl] at HCK2
            have HR := Lib.hid hR
            have HGN := Lib.hid (fun he : ¬ GoodAt l i ⟨k2, st2, nn2, key2, v2, dd2⟩ => comG_good_no (m := m) hKl HX.out hK1 rfl HH.out (by omega) hil HX2.out he)
            obtain ⟨g2, hg2⟩ : ∃ g, g = wr.heap.size := ⟨_, rfl⟩
            obtain ⟨w3, hw3⟩ : ∃ y, y = wr.alloc (.cells #[.int .i64 k2, .int .i64 st2, .int .i64 nn2, .string key2, .slice Av2 v2.length cv2, .bool dd2] 26) := ⟨_, rfl⟩
            have HW3 := Lib.hid hw3
            have T3 := Lib.hid (show Turn (Item.all []) w (Item.all [Item.blk g2 26 #[.int .i64 k2, .int .i64 st2, .int .i64 nn2, .string key2, .slice Av2 v2.length cv2, .bool dd2], Item.blk g 26 #[.int .i64 3, .int .i64 m, .int .i64 K, .string key, .slice Av v.length cv, .bool dd], gV A' i c' hs]) w3 from by
              rw [hw3, hg2]
              exact hT.more (y := Item.blk wr.heap.size 26 #[.int .i64 k2, .int .i64 st2, .int .i64 nn2, .string key2, .slice Av2 v2.length cv2, .bool dd2]) ((Below.refl _ _).alloc (Nat.le_refl _) _) (Blk.new _ _ _) (fun k hk => Nat.le_of_eq hk.symm))
            have HVAL := Lib.hid hval
            have hba : Below wr.heap.size wr w3 := by rw [hw3]; exact (Below.refl _ _).alloc (Nat.le_refl _) _
            have HVE := Lib.hid (rver_any (w := w3) (A := Av2) (c := cv2) ⟨k2, st2, nn2, key2, v2, dd2⟩ (((hval.more hbw.size).below hba).more hba.size) (by simp only; omega))
            clear hba
            rw [show En.cells ⟨k2, st2, nn2, key2, v2, dd2⟩ Av2 cv2 = #[.int .i64 k2, .int .i64 st2, .int .i64 nn2, .string key2, .slice Av2 v2.length cv2, .bool dd2] from rfl] at HVE
            clear hx2 hxb hval hints hbb hw3 hT hhs hgd hH hbw hR
            go_upto_region 13 with fail
            rw [← HW3.out]
            rw [← hg2]
            clear HW3 hg2 s0 s1 s2 s3 s4 s5 hbr
            have q0 := Blk.cell (show Blk w3 g2 _ #[.int .i64 k2, .int .i64 st2, .int .i64 nn2, .string key2, .slice Av2 v2.length cv2, .bool dd2] from T3.out.get (i := 0) rfl) 0
            have q1 := Blk.cell (show Blk w3 g2 _ #[.int .i64 k2, .int .i64 st2, .int .i64 nn2, .string key2, .slice Av2 v2.length cv2, .bool dd2] from T3.out.get (i := 0) rfl) 1
            have q2 := Blk.cell (show Blk w3 g2 _ #[.int .i64 k2, .int .i64 st2, .int .i64 nn2, .string key2, .slice Av2 v2.length cv2, .bool dd2] from T3.out.get (i := 0) rfl) 2
            have q3 := Blk.cell (show Blk w3 g2 _ #[.int .i64 k2, .int .i64 st2, .int .i64 nn2, .string key2, .slice Av2 v2.length cv2, .bool dd2] from T3.out.get (i := 0) rfl) 3
            have q4 := Blk.cell (show Blk w3 g2 _ #[.int .i64 k2, .int .i64 st2, .int .i64 nn2, .string key2, .slice Av2 v2.length cv2, .bool dd2] from T3.out.get (i := 0) rfl) 4
            have q5 := Blk.cell (show Blk w3 g2 _ #[.int .i64 k2, .int .i64 st2, .int .i64 nn2, .string key2, .slice Av2 v2.length cv2, .bool dd2] from T3.out.get (i := 0) rfl) 5
            simp only [List.getElem?_toArray, List.getElem?_cons_zero, List.getElem?_cons_succ] at q0 q1 q2 q3 q4 q5
            go_wp2_with fail
            refine HVE.out.mono ?_
            rintro e w4 ⟨A4, c4, rfl, ho4, hb4⟩
            obtain ⟨⟨vk, vs, vv, vd⟩, hV⟩ : ∃ V, V = (En.version ⟨k2, st2, nn2, key2, v2, dd2⟩).1 := ⟨_, rfl⟩
            obtain ⟨vb, hvb⟩ : ∃ V, V = (En.version ⟨k2, st2, nn2, key2, v2, dd2⟩).2 := ⟨_, rfl⟩
            rw [← hV] at ho4 ⊢
            rw [← hvb, show Vn.cells ⟨vk, vs, vv, vd⟩ A4 c4 = #[.string vk, .int .i64 vs, .slice A4 vv.length c4, .bool vd] from rfl]
            have HVV := Lib.hid hV
            have HVB := Lib.hid (hvb.trans (ver_kind _))
            simp only at ho4
            obtain ⟨gv, hgv⟩ : ∃ g, g = w4.heap.size := ⟨_, rfl⟩
            obtain ⟨w5, hw5⟩ : ∃ y, y = w4.alloc (.cells #[.string vk, .int .i64 vs, .slice A4 vv.length c4, .bool vd] 88) := ⟨_, rfl⟩
            have HW5 := Lib.hid hw5
            have T5 := Lib.hid (show Turn (Item.all []) w (Item.all [Item.blk gv 88 #[.string vk, .int .i64 vs, .slice A4 vv.length c4, .bool vd], Item.row (.slice A4 vv.length c4) vv, Item.blk g2 26 #[.int .i64 k2, .int .i64 st2, .int .i64 nn2, .string key2, .slice Av2 v2.length cv2, .bool dd2], Item.blk g 26 #[.int .i64 3, .int .i64 m, .int .i64 K, .string key, .slice Av v.length cv, .bool dd], gV A' i c' hs]) w5 from by
              have t4 := T3.out.more (y := Item.row (.slice A4 vv.length c4) vv) hb4 (owns_less ho4 (Nat.zero_le _)) (fun k hk => (ho4.lt hk).1)
              rw [hw5, hgv]
              exact t4.more (y := Item.blk w4.heap.size 88 #[.string vk, .int .i64 vs, .slice A4 vv.length c4, .bool vd]) ((Below.refl _ _).alloc (Nat.le_refl _) _) (Blk.new _ _ _) (fun k hk => Nat.le_of_eq hk.symm))
            clear q0 q1 q2 q3 q4 q5 hV hvb ho4 hb4 T3 HVE hw5
            go_upto_region 14 with fail
            rw [← HW5.out]
            rw [← hgv]
            clear HW5 hgv
            have q0 := Blk.cell (show Blk w5 g2 _ #[.int .i64 k2, .int .i64 st2, .int .i64 nn2, .string key2, .slice Av2 v2.length cv2, .bool dd2] from T5.out.get (i := 2) rfl) 0
            have q1 := Blk.cell (show Blk w5 g2 _ #[.int .i64 k2, .int .i64 st2, .int .i64 nn2, .string key2, .slice Av2 v2.length cv2, .bool dd2] from T5.out.get (i := 2) rfl) 1
            have q2 := Blk.cell (show Blk w5 g2 _ #[.int .i64 k2, .int .i64 st2, .int .i64 nn2, .string key2, .slice Av2 v2.length cv2, .bool dd2] from T5.out.get (i := 2) rfl) 2
            have q3 := Blk.cell (show Blk w5 g2 _ #[.int .i64 k2, .int .i64 st2, .int .i64 nn2, .string key2, .slice Av2 v2.length cv2, .bool dd2] from T5.out.get (i := 2) rfl) 3
            have q4 := Blk.cell (show Blk w5 g2 _ #[.int .i64 k2, .int .i64 st2, .int .i64 nn2, .string key2, .slice Av2 v2.length cv2, .bool dd2] from T5.out.get (i := 2) rfl) 4
            have q5 := Blk.cell (show Blk w5 g2 _ #[.int .i64 k2, .int .i64 st2, .int .i64 nn2, .string key2, .slice Av2 v2.length cv2, .bool dd2] from T5.out.get (i := 2) rfl) 5
            simp only [List.getElem?_toArray, List.getElem?_cons_zero, List.getElem?_cons_succ] at q0 q1 q2 q3 q4 q5
            have hgl : g2 < w5.drew.heap.size := (show Blk w5 g2 _ #[.int .i64 k2, .int .i64 st2, .int .i64 nn2, .string key2, .slice Av2 v2.length cv2, .bool dd2] from T5.out.get (i := 2) rfl).lt
            by_cases hr0 : R = 0
            rotate_left
            · have f1 : (R == 0) = false := beq_false_of_ne hr0
              have f2 : decide (R = 0) = false := decide_eq_false hr0
              have f2n : (R != 0) = true := bne_iff_ne.2 hr0
              have HNO := Lib.hid (HGN.out (fun h => hr0 (HR.out.trans h.1)))
              clear hr0
              refine wp_region_held_drew (S := fun w' => w'.cell? ⟨g2, 0, none⟩ = some (.int .i64 k2) ∧ w'.cell? ⟨g2, 1, none⟩ = some (.int .i64 st2) ∧ w'.cell? ⟨g2, 2, none⟩ = some (.int .i64 nn2) ∧ w'.cell? ⟨g2, 3, none⟩ = some (.string key2) ∧ w'.cell? ⟨g2, 4, none⟩ = some (.slice Av2 v2.length cv2) ∧ w'.cell? ⟨g2, 5, none⟩ = some (.bool dd2)) (by kernel_rfl) ⟨q0, q1, q2, q3, q4, q5⟩ (fun hHeld => ?_)
              refine wpAnyH_take (i := 0) (v := ?_) rfl (by kernel_rfl) (by kernel_rfl) (by kernel_rfl) (fun _ _ _ h => h) (Or.inl ⟨by rfl, ?_⟩) (by assumption) ?_
              rotate_left 1
              · (intro w hSw; (try dsimp only at hSw); go_simp; (try with_reducible rfl))
              simp only [Act.put, List.getElem_toArray, List.getElem_cons_zero, List.getElem_cons_succ, List.setIfInBounds_toArray, List.set_cons_zero, List.set_cons_succ]
              refine wpAnyH_ready (rs := [1]) (by kernel_rfl) (by simp) ?_
              refine AllReadyH.cons rfl (fun K' hK' => ?_) AllReadyH.nil
              try simp only [List.getElem_toArray, List.getElem_cons_zero, List.getElem_cons_succ]
              try go_simp
              (go_at_call 70; refine (HCK2.out _).mono ?_; rintro e w6 ⟨rfl, hb⟩; have T6 := Lib.hid (T5.out.go ((Below.refl w5.heap.size w5).drew.trans hb)); have z0 := (hb.cell (p := ⟨g2, 0, none⟩) hgl).trans q0; have z1 := (hb.cell (p := ⟨g2, 1, none⟩) hgl).trans q1; have z2 := (hb.cell (p := ⟨g2, 2, none⟩) hgl).trans q2; have z3 := (hb.cell (p := ⟨g2, 3, none⟩) hgl).trans q3; have z4 := (hb.cell (p := ⟨g2, 4, none⟩) hgl).trans q4; have z5 := (hb.cell (p := ⟨g2, 5, none⟩) hgl).trans q5; clear hb)
              refine hK'.out _ _ ⟨z0, z1, z2, z3, z4, z5⟩ (fun hHeld => ?_)
              clear hK' K'
              try simp only [Act.put, List.getElem_toArray, List.getElem_cons_zero, List.getElem_cons_succ, List.setIfInBounds_toArray, List.set_cons_zero, List.set_cons_succ]
              refine wpAnyH_take (i := 2) (v := ?_) rfl (by kernel_rfl) (by kernel_rfl) (by kernel_rfl) (fun _ _ _ h => h) (Or.inl ⟨by rfl, ?_⟩) (by assumption) ?_
              rotate_left 1
              · (intro w hSw; (try dsimp only at hSw); go_simp; (try with_reducible rfl))
              simp only [Act.put, List.getElem_toArray, List.getElem_cons_zero, List.getElem_cons_succ, List.setIfInBounds_toArray, List.set_cons_zero, List.set_cons_succ]
              refine wpAnyH_take (i := 3) (v := ?_) rfl (by kernel_rfl) (by kernel_rfl) (by kernel_rfl) (fun _ _ _ h => h) (Or.inl ⟨by rfl, ?_⟩) (by assumption) ?_
              rotate_left 1
              · (intro w hSw; (try dsimp only at hSw); go_simp; (try with_reducible rfl))
              simp only [Act.put, List.getElem_toArray, List.getElem_cons_zero, List.getElem_cons_succ, List.setIfInBounds_toArray, List.set_cons_zero, List.set_cons_succ]
              refine wpAnyH_take (i := 4) (v := undef) rfl (by kernel_rfl) (by kernel_rfl) (by kernel_rfl) (fun _ _ _ h => h) (Or.inr ⟨by rfl, rfl⟩) (by assumption) ?_
              simp only [Act.put, List.getElem_toArray, List.getElem_cons_zero, List.getElem_cons_succ, List.setIfInBounds_toArray, List.set_cons_zero, List.set_cons_succ]
              refine wpAnyH_take (i := 5) (v := undef) rfl (by kernel_rfl) (by kernel_rfl) (by kernel_rfl) (fun _ _ _ h => h) (Or.inr ⟨by rfl, rfl⟩) (by assumption) ?_
              simp only [Act.put, List.getElem_toArray, List.getElem_cons_zero, List.getElem_cons_succ, List.setIfInBounds_toArray, List.set_cons_zero, List.set_cons_succ]
              refine wpAnyH_take (i := 6) (v := ?_) rfl (by kernel_rfl) (by kernel_rfl) (by kernel_rfl) (fun _ _ _ h => h) (Or.inl ⟨by rfl, ?_⟩) (by assumption) ?_
              rotate_left 1
              · (intro w hSw; (try dsimp only at hSw); go_simp; (try with_reducible rfl))
              simp only [Act.put, List.getElem_toArray, List.getElem_cons_zero, List.getElem_cons_succ, List.setIfInBounds_toArray, List.set_cons_zero, List.set_cons_succ]
              refine wpAnyH_take (i := 7) (v := ?_) rfl (by kernel_rfl) (by kernel_rfl) (by kernel_rfl) (fun _ _ _ h => h) (Or.inl ⟨by rfl, ?_⟩) (by assumption) ?_
              rotate_left 1
              · (intro w hSw; (try dsimp only at hSw); go_simp; (try with_reducible rfl))
              simp only [Act.put, List.getElem_toArray, List.getElem_cons_zero, List.getElem_cons_succ, List.setIfInBounds_toArray, List.set_cons_zero, List.set_cons_succ]
              refine wpAnyH_take (i := 8) (v := undef) rfl (by kernel_rfl) (by kernel_rfl) (by kernel_rfl) (fun _ _ _ h => h) (Or.inr ⟨by rfl, rfl⟩) (by assumption) ?_
              simp only [Act.put, List.getElem_toArray, List.getElem_cons_zero, List.getElem_cons_succ, List.setIfInBounds_toArray, List.set_cons_zero, List.set_cons_succ]
              refine wpAnyH_take (i := 9) (v := undef) rfl (by kernel_rfl) (by kernel_rfl) (by kernel_rfl) (fun _ _ _ h => h) (Or.inr ⟨by rfl, rfl⟩) (by assumption) ?_
              simp only [Act.put, List.getElem_toArray, List.getElem_cons_zero, List.getElem_cons_succ, List.setIfInBounds_toArray, List.set_cons_zero, List.set_cons_succ]
              refine wpAnyH_take (i := 10) (v := undef) rfl (by kernel_rfl) (by kernel_rfl) (by kernel_rfl) (fun _ _ _ h => h) (Or.inr ⟨by rfl, rfl⟩) (by assumption) ?_
              simp only [Act.put, List.getElem_toArray, List.getElem_cons_zero, List.getElem_cons_succ, List.setIfInBounds_toArray, List.set_cons_zero, List.set_cons_succ]
              refine wpAnyH_take (i := 11) (v := ?_) rfl (by kernel_rfl) (by kernel_rfl) (by kernel_rfl) (fun _ _ _ h => h) (Or.inl ⟨by rfl, ?_⟩) (by assumption) ?_
              rotate_left 1
              · (intro w hSw; (try dsimp only at hSw); go_simp; (try with_reducible rfl))
              simp only [Act.put, List.getElem_toArray, List.getElem_cons_zero, List.getElem_cons_succ, List.setIfInBounds_toArray, List.set_cons_zero, List.set_cons_succ]
              refine wpAnyH_take (i := 12) (v := ?_) rfl (by kernel_rfl) (by kernel_rfl) (by kernel_rfl) (fun _ _ _ h => h) (Or.inl ⟨by rfl, ?_⟩) (by assumption) ?_
              rotate_left 1
              · (intro w hSw; (try dsimp only at hSw); go_simp; (try with_reducible rfl))
              simp only [Act.put, List.getElem_toArray, List.getElem_cons_zero, List.getElem_cons_succ, List.setIfInBounds_toArray, List.set_cons_zero, List.set_cons_succ]
              refine wpAnyH_take (i := 13) (v := undef) rfl (by kernel_rfl) (by kernel_rfl) (by kernel_rfl) (fun _ _ _ h => h) (Or.inr ⟨by rfl, rfl⟩) (by assumption) ?_
              simp only [Act.put, List.getElem_toArray, List.getElem_cons_zero, List.getElem_cons_succ, List.setIfInBounds_toArray, List.set_cons_zero, List.set_cons_succ]
              refine wpAnyH_take (i := 14) (v := undef) rfl (by kernel_rfl) (by kernel_rfl) (by kernel_rfl) (fun _ _ _ h => h) (Or.inr ⟨by rfl, rfl⟩) (by assumption) ?_
              simp only [Act.put, List.getElem_toArray, List.getElem_cons_zero, List.getElem_cons_succ, List.setIfInBounds_toArray, List.set_cons_zero, List.set_cons_succ]
              refine wpAnyH_take (i := 15) (v := undef) rfl (by kernel_rfl) (by kernel_rfl) (by kernel_rfl) (fun _ _ _ h => h) (Or.inr ⟨by rfl, rfl⟩) (by assumption) ?_
              simp only [Act.put, List.getElem_toArray, List.getElem_cons_zero, List.getElem_cons_succ, List.setIfInBounds_toArray, List.set_cons_zero, List.set_cons_succ]
              refine wpAnyH_take (i := 16) (v := undef) rfl (by kernel_rfl) (by kernel_rfl) (by kernel_rfl) (fun _ _ _ h => h) (Or.inr ⟨by rfl, rfl⟩) (by assumption) ?_
              simp only [Act.put, List.getElem_toArray, List.getElem_cons_zero, List.getElem_cons_succ, List.setIfInBounds_toArray, List.set_cons_zero, List.set_cons_succ]
              refine wpAnyH_take (i := 17) (v := undef) rfl (by kernel_rfl) (by kernel_rfl) (by kernel_rfl) (fun _ _ _ h => h) (Or.inr ⟨by rfl, rfl⟩) (by assumption) ?_
              simp only [Act.put, List.getElem_toArray, List.getElem_cons_zero, List.getElem_cons_succ, List.setIfInBounds_toArray, List.set_cons_zero, List.set_cons_succ]
              refine wpAnyH_take (i := 18) (v := undef) rfl (by kernel_rfl) (by kernel_rfl) (by kernel_rfl) (fun _ _ _ h => h) (Or.inr ⟨by rfl, rfl⟩) (by assumption) ?_
              simp only [Act.put, List.getElem_toArray, List.getElem_cons_zero, List.getElem_cons_succ, List.setIfInBounds_toArray, List.set_cons_zero, List.set_cons_succ]
              refine wpAnyH_take (i := 19) (v := undef) rfl (by kernel_rfl) (by kernel_rfl) (by kernel_rfl) (fun _ _ _ h => h) (Or.inr ⟨by rfl, rfl⟩) (by assumption) ?_
              simp only [Act.put, List.getElem_toArray, List.getElem_cons_zero, List.getElem_cons_succ, List.setIfInBounds_toArray, List.set_cons_zero, List.set_cons_succ]
              refine wpAnyH_take (i := 20) (v := undef) rfl (by kernel_rfl) (by kernel_rfl) (by kernel_rfl) (fun _ _ _ h => h) (Or.inr ⟨by rfl, rfl⟩) (by assumption) ?_
              simp only [Act.put, List.getElem_toArray, List.getElem_cons_zero, List.getElem_cons_succ, List.setIfInBounds_toArray, List.set_cons_zero, List.set_cons_succ]
              refine wpAnyH_take (i := 21) (v := undef) rfl (by kernel_rfl) (by kernel_rfl) (by kernel_rfl) (fun _ _ _ h => h) (Or.inr ⟨by rfl, rfl⟩) (by assumption) ?_
              simp only [Act.put, List.getElem_toArray, List.getElem_cons_zero, List.getElem_cons_succ, List.setIfInBounds_toArray, List.set_cons_zero, List.set_cons_succ]
              refine wpAnyH_take (i := 22) (v := undef) rfl (by kernel_rfl) (by kernel_rfl) (by kernel_rfl) (fun _ _ _ h => h) (Or.inr ⟨by rfl, rfl⟩) (by assumption) ?_
              simp only [Act.put, List.getElem_toArray, List.getElem_cons_zero, List.getElem_cons_succ, List.setIfInBounds_toArray, List.set_cons_zero, List.set_cons_succ]
              refine wpAnyH_take (i := 23) (v := undef) rfl (by kernel_rfl) (by kernel_rfl) (by kernel_rfl) (fun _ _ _ h => h) (Or.inr ⟨by rfl, rfl⟩) (by assumption) ?_
              simp only [Act.put, List.getElem_toArray, List.getElem_cons_zero, List.getElem_cons_succ, List.setIfInBounds_toArray, List.set_cons_zero, List.set_cons_succ]
              refine wpAnyH_take (i := 24) (v := undef) rfl (by kernel_rfl) (by kernel_rfl) (by kernel_rfl) (fun _ _ _ h => h) (Or.inr ⟨by rfl, rfl⟩) (by assumption) ?_
              simp only [Act.put, List.getElem_toArray, List.getElem_cons_zero, List.getElem_cons_succ, List.setIfInBounds_toArray, List.set_cons_zero, List.set_cons_succ]
              refine wpAnyH_take (i := 25) (v := undef) rfl (by kernel_rfl) (by kernel_rfl) (by kernel_rfl) (fun _ _ _ h => h) (Or.inr ⟨by rfl, rfl⟩) (by assumption) ?_
              simp only [Act.put, List.getElem_toArray, List.getElem_cons_zero, List.getElem_cons_succ, List.setIfInBounds_toArray, List.set_cons_zero, List.set_cons_succ]
              refine wpAnyH_take (i := 26) (v := ?_) rfl (by kernel_rfl) (by kernel_rfl) (by kernel_rfl) (fun _ _ _ h => h) (Or.inl ⟨by rfl, ?_⟩) (by assumption) ?_
              rotate_left 1
              · (intro w hSw; (try dsimp only at hSw); go_simp; (try with_reducible rfl))
              simp only [Act.put, List.getElem_toArray, List.getElem_cons_zero, List.getElem_cons_succ, List.setIfInBounds_toArray, List.set_cons_zero, List.set_cons_succ]
              refine wpAnyH_done (by kernel_rfl) ?_ _
              have HRE := Lib.hid (show RcPost l m w (.returned (.tuple #[.slice none 0 0, .int .i64 0])) w6 from .inl ⟨HNO.out, rfl, T6.out.free⟩)
              clear T5 T6 q0 q1 q2 q3 q4 q5 z0 z1 z2 z3 z4 z5
              go_wp2
              go_ret2
              exact HRE.out
            have HR0 := Lib.hid (HR.out.symm.trans hr0)
            subst hr0
            cases vb with
            | false =>
              have HNO := Lib.hid (HGN.out (fun h => by
                have h1 := of_decide_eq_false HVB.out.symm
                rcases h.2.1 with h2 | h2
                · exact h1 (.inl h2)
                · exact h1 (.inr (.inl h2))))
              refine wp_region_held_drew (S := fun w' => w'.cell? ⟨g2, 0, none⟩ = some (.int .i64 k2) ∧ w'.cell? ⟨g2, 1, none⟩ = some (.int .i64 st2) ∧ w'.cell? ⟨g2, 2, none⟩ = some (.int .i64 nn2) ∧ w'.cell? ⟨g2, 3, none⟩ = some (.string key2) ∧ w'.cell? ⟨g2, 4, none⟩ = some (.slice Av2 v2.length cv2) ∧ w'.cell? ⟨g2, 5, none⟩ = some (.bool dd2)) (by kernel_rfl) ⟨q0, q1, q2, q3, q4, q5⟩ (fun hHeld => ?_)
              refine wpAnyH_take (i := 0) (v := ?_) rfl (by kernel_rfl) (by kernel_rfl) (by kernel_rfl) (fun _ _ _ h => h) (Or.inl ⟨by rfl, ?_⟩) (by assumption) ?_
              rotate_left 1
              · (intro w hSw; (try dsimp only at hSw); go_simp; (try with_reducible rfl))
              simp only [Act.put, List.getElem_toArray, List.getElem_cons_zero, List.getElem_cons_succ, List.setIfInBounds_toArray, List.set_cons_zero, List.set_cons_succ]
              refine wpAnyH_ready (rs := [1]) (by kernel_rfl) (by simp) ?_
              refine AllReadyH.cons rfl (fun K' hK' => ?_) AllReadyH.nil
              try simp only [List.getElem_toArray, List.getElem_cons_zero, List.getElem_cons_succ]
              try go_simp
              (go_at_call 70; refine (HCK2.out _).mono ?_; rintro e w6 ⟨rfl, hb⟩; have T6 := Lib.hid (T5.out.go ((Below.refl w5.heap.size w5).drew.trans hb)); have z0 := (hb.cell (p := ⟨g2, 0, none⟩) hgl).trans q0; have z1 := (hb.cell (p := ⟨g2, 1, none⟩) hgl).trans q1; have z2 := (hb.cell (p := ⟨g2, 2, none⟩) hgl).trans q2; have z3 := (hb.cell (p := ⟨g2, 3, none⟩) hgl).trans q3; have z4 := (hb.cell (p := ⟨g2, 4, none⟩) hgl).trans q4; have z5 := (hb.cell (p := ⟨g2, 5, none⟩) hgl).trans q5; clear hb)
              refine hK'.out _ _ ⟨z0, z1, z2, z3, z4, z5⟩ (fun hHeld => ?_)
              clear hK' K'
              try simp only [Act.put, List.getElem_toArray, List.getElem_cons_zero, List.getElem_cons_succ, List.setIfInBounds_toArray, List.set_cons_zero, List.set_cons_succ]
              refine wpAnyH_take (i := 2) (v := ?_) rfl (by kernel_rfl) (by kernel_rfl) (by kernel_rfl) (fun _ _ _ h => h) (Or.inl ⟨by rfl, ?_⟩) (by assumption) ?_
              rotate_left 1
              · (intro w hSw; (try dsimp only at hSw); go_simp; (try with_reducible rfl))
              simp only [Act.put, List.getElem_toArray, List.getElem_cons_zero, List.getElem_cons_succ, List.setIfInBounds_toArray, List.set_cons_zero, List.set_cons_succ]
              refine wpAnyH_take (i := 3) (v := ?_) rfl (by kernel_rfl) (by kernel_rfl) (by kernel_rfl) (fun _ _ _ h => h) (Or.inl ⟨by rfl, ?_⟩) (by assumption) ?_
              rotate_left 1
              · (intro w hSw; (try dsimp only at hSw); go_simp; (try with_reducible rfl))
              simp only [Act.put, List.getElem_toArray, List.getElem_cons_zero, List.getElem_cons_succ, List.setIfInBounds_toArray, List.set_cons_zero, List.set_cons_succ]
              refine wpAnyH_take (i := 4) (v := ?_) rfl (by kernel_rfl) (by kernel_rfl) (by kernel_rfl) (fun _ _ _ h => h) (Or.inl ⟨by rfl, ?_⟩) (by assumption) ?_
              rotate_left 1
              · (intro w hSw; (try dsimp only at hSw); go_simp; (try with_reducible rfl))
              simp only [Act.put, List.getElem_toArray, List.getElem_cons_zero, List.getElem_cons_succ, List.setIfInBounds_toArray, List.set_cons_zero, List.set_cons_succ]
              refine wpAnyH_take (i := 5) (v := ?_) rfl (by kernel_rfl) (by kernel_rfl) (by kernel_rfl) (fun _ _ _ h => h) (Or.inl ⟨by rfl, ?_⟩) (by assumption) ?_
              rotate_left 1
              · (intro w hSw; (try dsimp only at hSw); go_simp; (try with_reducible rfl))
              simp only [Act.put, List.getElem_toArray, List.getElem_cons_zero, List.getElem_cons_succ, List.setIfInBounds_toArray, List.set_cons_zero, List.set_cons_succ]
              refine wpAnyH_take (i := 6) (v := ?_) rfl (by kernel_rfl) (by kernel_rfl) (by kernel_rfl) (fun _ _ _ h => h) (Or.inl ⟨by rfl, ?_⟩) (by assumption) ?_
              rotate_left 1
              · (intro w hSw; (try dsimp only at hSw); go_simp; (try with_reducible rfl))
              simp only [Act.put, List.getElem_toArray, List.getElem_cons_zero, List.getElem_cons_succ, List.setIfInBounds_toArray, List.set_cons_zero, List.set_cons_succ]
              refine wpAnyH_take (i := 7) (v := ?_) rfl (by kernel_rfl) (by kernel_rfl) (by kernel_rfl) (fun _ _ _ h => h) (Or.inl ⟨by rfl, ?_⟩) (by assumption) ?_
              rotate_left 1
              · (intro w hSw; (try dsimp only at hSw); go_simp; (try with_reducible rfl))
              simp only [Act.put, List.getElem_toArray, List.getElem_cons_zero, List.getElem_cons_succ, List.setIfInBounds_toArray, List.set_cons_zero, List.set_cons_succ]
              refine wpAnyH_take (i := 8) (v := undef) rfl (by kernel_rfl) (by kernel_rfl) (by kernel_rfl) (fun _ _ _ h => h) (Or.inr ⟨by rfl, rfl⟩) (by assumption) ?_
              simp only [Act.put, List.getElem_toArray, List.getElem_cons_zero, List.getElem_cons_succ, List.setIfInBounds_toArray, List.set_cons_zero, List.set_cons_succ]
              refine wpAnyH_take (i := 9) (v := undef) rfl (by kernel_rfl) (by kernel_rfl) (by kernel_rfl) (fun _ _ _ h => h) (Or.inr ⟨by rfl, rfl⟩) (by assumption) ?_
              simp only [Act.put, List.getElem_toArray, List.getElem_cons_zero, List.getElem_cons_succ, List.setIfInBounds_toArray, List.set_cons_zero, List.set_cons_succ]
              refine wpAnyH_take (i := 10) (v := undef) rfl (by kernel_rfl) (by kernel_rfl) (by kernel_rfl) (fun _ _ _ h => h) (Or.inr ⟨by rfl, rfl⟩) (by assumption) ?_
              simp only [Act.put, List.getElem_toArray, List.getElem_cons_zero, List.getElem_cons_succ, List.setIfInBounds_toArray, List.set_cons_zero, List.set_cons_succ]
              refine wpAnyH_take (i := 11) (v := ?_) rfl (by kernel_rfl) (by kernel_rfl) (by kernel_rfl) (fun _ _ _ h => h) (Or.inl ⟨by rfl, ?_⟩) (by assumption) ?_
              rotate_left 1
              · (intro w hSw; (try dsimp only at hSw); go_simp; (try with_reducible rfl))
              simp only [Act.put, List.getElem_toArray, List.getElem_cons_zero, List.getElem_cons_succ, List.setIfInBounds_toArray, List.set_cons_zero, List.set_cons_succ]
              refine wpAnyH_take (i := 12) (v := ?_) rfl (by kernel_rfl) (by kernel_rfl) (by kernel_rfl) (fun _ _ _ h => h) (Or.inl ⟨by rfl, ?_⟩) (by assumption) ?_
              rotate_left 1
              · (intro w hSw; (try dsimp only at hSw); go_simp; (try with_reducible rfl))
              simp only [Act.put, List.getElem_toArray, List.getElem_cons_zero, List.getElem_cons_succ, List.setIfInBounds_toArray, List.set_cons_zero, List.set_cons_succ]
              refine wpAnyH_take (i := 13) (v := undef) rfl (by kernel_rfl) (by kernel_rfl) (by kernel_rfl) (fun _ _ _ h => h) (Or.inr ⟨by rfl, rfl⟩) (by assumption) ?_
              simp only [Act.put, List.getElem_toArray, List.getElem_cons_zero, List.getElem_cons_succ, List.setIfInBounds_toArray, List.set_cons_zero, List.set_cons_succ]
              refine wpAnyH_take (i := 14) (v := undef) rfl (by kernel_rfl) (by kernel_rfl) (by kernel_rfl) (fun _ _ _ h => h) (Or.inr ⟨by rfl, rfl⟩) (by assumption) ?_
              simp only [Act.put, List.getElem_toArray, List.getElem_cons_zero, List.getElem_cons_succ, List.setIfInBounds_toArray, List.set_cons_zero, List.set_cons_succ]
              refine wpAnyH_take (i := 15) (v := undef) rfl (by kernel_rfl) (by kernel_rfl) (by kernel_rfl) (fun _ _ _ h => h) (Or.inr ⟨by rfl, rfl⟩) (by assumption) ?_
              simp only [Act.put, List.getElem_toArray, List.getElem_cons_zero, List.getElem_cons_succ, List.setIfInBounds_toArray, List.set_cons_zero, List.set_cons_succ]
              refine wpAnyH_take (i := 16) (v := undef) rfl (by kernel_rfl) (by kernel_rfl) (by kernel_rfl) (fun _ _ _ h => h) (Or.inr ⟨by rfl, rfl⟩) (by assumption) ?_
              simp only [Act.put, List.getElem_toArray, List.getElem_cons_zero, List.getElem_cons_succ, List.setIfInBounds_toArray, List.set_cons_zero, List.set_cons_succ]
              refine wpAnyH_take (i := 17) (v := undef) rfl (by kernel_rfl) (by kernel_rfl) (by kernel_rfl) (fun _ _ _ h => h) (Or.inr ⟨by rfl, rfl⟩) (by assumption) ?_
              simp only [Act.put, List.getElem_toArray, List.getElem_cons_zero, List.getElem_cons_succ, List.setIfInBounds_toArray, List.set_cons_zero, List.set_cons_succ]
              refine wpAnyH_take (i := 18) (v := undef) rfl (by kernel_rfl) (by kernel_rfl) (by kernel_rfl) (fun _ _ _ h => h) (Or.inr ⟨by rfl, rfl⟩) (by assumption) ?_
              simp only [Act.put, List.getElem_toArray, List.getElem_cons_zero, List.getElem_cons_succ, List.setIfInBounds_toArray, List.set_cons_zero, List.set_cons_succ]
              refine wpAnyH_take (i := 19) (v := undef) rfl (by kernel_rfl) (by kernel_rfl) (by kernel_rfl) (fun _ _ _ h => h) (Or.inr ⟨by rfl, rfl⟩) (by assumption) ?_
              simp only [Act.put, List.getElem_toArray, List.getElem_cons_zero, List.getElem_cons_succ, List.setIfInBounds_toArray, List.set_cons_zero, List.set_cons_succ]
              refine wpAnyH_take (i := 20) (v := undef) rfl (by kernel_rfl) (by kernel_rfl) (by kernel_rfl) (fun _ _ _ h => h) (Or.inr ⟨by rfl, rfl⟩) (by assumption) ?_
              simp only [Act.put, List.getElem_toArray, List.getElem_cons_zero, List.getElem_cons_succ, List.setIfInBounds_toArray, List.set_cons_zero, List.set_cons_succ]
              refine wpAnyH_take (i := 21) (v := undef) rfl (by kernel_rfl) (by kernel_rfl) (by kernel_rfl) (fun _ _ _ h => h) (Or.inr ⟨by rfl, rfl⟩) (by assumption) ?_
              simp only [Act.put, List.getElem_toArray, List.getElem_cons_zero, List.getElem_cons_succ, List.setIfInBounds_toArray, List.set_cons_zero, List.set_cons_succ]
              refine wpAnyH_take (i := 22) (v := undef) rfl (by kernel_rfl) (by kernel_rfl) (by kernel_rfl) (fun _ _ _ h => h) (Or.inr ⟨by rfl, rfl⟩) (by assumption) ?_
              simp only [Act.put, List.getElem_toArray, List.getElem_cons_zero, List.getElem_cons_succ, List.setIfInBounds_toArray, List.set_cons_zero, List.set_cons_succ]
              refine wpAnyH_take (i := 23) (v := undef) rfl (by kernel_rfl) (by kernel_rfl) (by kernel_rfl) (fun _ _ _ h => h) (Or.inr ⟨by rfl, rfl⟩) (by assumption) ?_
              simp only [Act.put, List.getElem_toArray, List.getElem_cons_zero, List.getElem_cons_succ, List.setIfInBounds_toArray, List.set_cons_zero, List.set_cons_succ]
              refine wpAnyH_take (i := 24) (v := undef) rfl (by kernel_rfl) (by kernel_rfl) (by kernel_rfl) (fun _ _ _ h => h) (Or.inr ⟨by rfl, rfl⟩) (by assumption) ?_
              simp only [Act.put, List.getElem_toArray, List.getElem_cons_zero, List.getElem_cons_succ, List.setIfInBounds_toArray, List.set_cons_zero, List.set_cons_succ]
              refine wpAnyH_take (i := 25) (v := undef) rfl (by kernel_rfl) (by kernel_rfl) (by kernel_rfl) (fun _ _ _ h => h) (Or.inr ⟨by rfl, rfl⟩) (by assumption) ?_
              simp only [Act.put, List.getElem_toArray, List.getElem_cons_zero, List.getElem_cons_succ, List.setIfInBounds_toArray, List.set_cons_zero, List.set_cons_succ]
              refine wpAnyH_take (i := 26) (v := ?_) rfl (by kernel_rfl) (by kernel_rfl) (by kernel_rfl) (fun _ _ _ h => h) (Or.inl ⟨by rfl, ?_⟩) (by assumption) ?_
              rotate_left 1
              · (intro w hSw; (try dsimp only at hSw); go_simp; (try with_reducible rfl))
              simp only [Act.put, List.getElem_toArray, List.getElem_cons_zero, List.getElem_cons_succ, List.setIfInBounds_toArray, List.set_cons_zero, List.set_cons_succ]
              refine wpAnyH_done (by kernel_rfl) ?_ _
              have HRE := Lib.hid (show RcPost l m w (.returned (.tuple #[.slice none 0 0, .int .i64 0])) w6 from .inl ⟨HNO.out, rfl, T6.out.free⟩)
              clear T5 T6 q0 q1 q2 q3 q4 q5 z0 z1 z2 z3 z4 z5
              go_wp2
              go_ret2
              exact HRE.out
            | true =>
              have HK5 := Lib.hid (of_decide_eq_true HVB.out.symm)
              by_cases h5 : k2 = 5
              · have HNO := Lib.hid (HGN.out (fun h => by
                  have e : k2 = 1 ∨ k2 = 2 := h.2.1
                  omega))
                have b5 : (k2 == 5) = true := beq_iff_eq.2 h5
                have d5 : decide (k2 = 5) = true := decide_eq_true h5
                clear h5
                refine wp_region_held_drew (S := fun w' => w'.cell? ⟨g2, 0, none⟩ = some (.int .i64 k2) ∧ w'.cell? ⟨g2, 1, none⟩ = some (.int .i64 st2) ∧ w'.cell? ⟨g2, 2, none⟩ = some (.int .i64 nn2) ∧ w'.cell? ⟨g2, 3, none⟩ = some (.string key2) ∧ w'.cell? ⟨g2, 4, none⟩ = some (.slice Av2 v2.length cv2) ∧ w'.cell? ⟨g2, 5, none⟩ = some (.bool dd2)) (by kernel_rfl) ⟨q0, q1, q2, q3, q4, q5⟩ (fun hHeld => ?_)
                refine wpAnyH_take (i := 0) (v := ?_) rfl (by kernel_rfl) (by kernel_rfl) (by kernel_rfl) (fun _ _ _ h => h) (Or.inl ⟨by rfl, ?_⟩) (by assumption) ?_
                rotate_left 1
                · (intro w hSw; (try dsimp only at hSw); go_simp; (try with_reducible rfl))
                simp only [Act.put, List.getElem_toArray, List.getElem_cons_zero, List.getElem_cons_succ, List.setIfInBounds_toArray, List.set_cons_zero, List.set_cons_succ]
                refine wpAnyH_ready (rs := [1]) (by kernel_rfl) (by simp) ?_
                refine AllReadyH.cons rfl (fun K' hK' => ?_) AllReadyH.nil
                try simp only [List.getElem_toArray, List.getElem_cons_zero, List.getElem_cons_succ]
                try go_simp
                (go_at_call 70; refine (HCK2.out _).mono ?_; rintro e w6 ⟨rfl, hb⟩; have T6 := Lib.hid (T5.out.go ((Below.refl w5.heap.size w5).drew.trans hb)); have z0 := (hb.cell (p := ⟨g2, 0, none⟩) hgl).trans q0; have z1 := (hb.cell (p := ⟨g2, 1, none⟩) hgl).trans q1; have z2 := (hb.cell (p := ⟨g2, 2, none⟩) hgl).trans q2; have z3 := (hb.cell (p := ⟨g2, 3, none⟩) hgl).trans q3; have z4 := (hb.cell (p := ⟨g2, 4, none⟩) hgl).trans q4; have z5 := (hb.cell (p := ⟨g2, 5, none⟩) hgl).trans q5; clear hb)
                refine hK'.out _ _ ⟨z0, z1, z2, z3, z4, z5⟩ (fun hHeld => ?_)
                clear hK' K'
                try simp only [Act.put, List.getElem_toArray, List.getElem_cons_zero, List.getElem_cons_succ, List.setIfInBounds_toArray, List.set_cons_zero, List.set_cons_succ]
                refine wpAnyH_take (i := 2) (v := ?_) rfl (by kernel_rfl) (by kernel_rfl) (by kernel_rfl) (fun _ _ _ h => h) (Or.inl ⟨by rfl, ?_⟩) (by assumption) ?_
                rotate_left 1
                · (intro w hSw; (try dsimp only at hSw); go_simp; (try with_reducible rfl))
                simp only [Act.put, List.getElem_toArray, List.getElem_cons_zero, List.getElem_cons_succ, List.setIfInBounds_toArray, List.set_cons_zero, List.set_cons_succ]
                refine wpAnyH_take (i := 3) (v := ?_) rfl (by kernel_rfl) (by kernel_rfl) (by kernel_rfl) (fun _ _ _ h => h) (Or.inl ⟨by rfl, ?_⟩) (by assumption) ?_
                rotate_left 1
                · (intro w hSw; (try dsimp only at hSw); go_simp; (try with_reducible rfl))
                simp only [Act.put, List.getElem_toArray, List.getElem_cons_zero, List.getElem_cons_succ, List.setIfInBounds_toArray, List.set_cons_zero, List.set_cons_succ]
                refine wpAnyH_take (i := 4) (v := ?_) rfl (by kernel_rfl) (by kernel_rfl) (by kernel_rfl) (fun _ _ _ h => h) (Or.inl ⟨by rfl, ?_⟩) (by assumption) ?_
                rotate_left 1
                · (intro w hSw; (try dsimp only at hSw); go_simp; (try with_reducible rfl))
                simp only [Act.put, List.getElem_toArray, List.getElem_cons_zero, List.getElem_cons_succ, List.setIfInBounds_toArray, List.set_cons_zero, List.set_cons_succ]
                refine wpAnyH_take (i := 5) (v := ?_) rfl (by kernel_rfl) (by kernel_rfl) (by kernel_rfl) (fun _ _ _ h => h) (Or.inl ⟨by rfl, ?_⟩) (by assumption) ?_
                rotate_left 1
                · (intro w hSw; (try dsimp only at hSw); go_simp; (try with_reducible rfl))
                simp only [Act.put, List.getElem_toArray, List.getElem_cons_zero, List.getElem_cons_succ, List.setIfInBounds_toArray, List.set_cons_zero, List.set_cons_succ]
                refine wpAnyH_take (i := 6) (v := ?_) rfl (by kernel_rfl) (by kernel_rfl) (by kernel_rfl) (fun _ _ _ h => h) (Or.inl ⟨by rfl, ?_⟩) (by assumption) ?_
                rotate_left 1
                · (intro w hSw; (try dsimp only at hSw); go_simp; (try with_reducible rfl))
                simp only [Act.put, List.getElem_toArray, List.getElem_cons_zero, List.getElem_cons_succ, List.setIfInBounds_toArray, List.set_cons_zero, List.set_cons_succ]
                refine wpAnyH_take (i := 7) (v := ?_) rfl (by kernel_rfl) (by kernel_rfl) (by kernel_rfl) (fun _ _ _ h => h) (Or.inl ⟨by rfl, ?_⟩) (by assumption) ?_
                rotate_left 1
                · (intro w hSw; (try dsimp only at hSw); go_simp; (try with_reducible rfl))
                simp only [Act.put, List.getElem_toArray, List.getElem_cons_zero, List.getElem_cons_succ, List.setIfInBounds_toArray, List.set_cons_zero, List.set_cons_succ]
                refine wpAnyH_take (i := 8) (v := ?_) rfl (by kernel_rfl) (by kernel_rfl) (by kernel_rfl) (fun _ _ _ h => h) (Or.inl ⟨by rfl, ?_⟩) (by assumption) ?_
                rotate_left 1
                · (intro w hSw; (try dsimp only at hSw); go_simp; (try with_reducible rfl))
                simp only [Act.put, List.getElem_toArray, List.getElem_cons_zero, List.getElem_cons_succ, List.setIfInBounds_toArray, List.set_cons_zero, List.set_cons_succ]
                refine wpAnyH_take (i := 9) (v := ?_) rfl (by kernel_rfl) (by kernel_rfl) (by kernel_rfl) (fun _ _ _ h => h) (Or.inl ⟨by rfl, ?_⟩) (by assumption) ?_
                rotate_left 1
                · (intro w hSw; (try dsimp only at hSw); go_simp; (try with_reducible rfl))
                simp only [Act.put, List.getElem_toArray, List.getElem_cons_zero, List.getElem_cons_succ, List.setIfInBounds_toArray, List.set_cons_zero, List.set_cons_succ]
                refine wpAnyH_take (i := 10) (v := ?_) rfl (by kernel_rfl) (by kernel_rfl) (by kernel_rfl) (fun _ _ _ h => h) (Or.inl ⟨by rfl, ?_⟩) (by assumption) ?_
                rotate_left 1
                · (intro w hSw; (try dsimp only at hSw); go_simp; (try with_reducible rfl))
                simp only [Act.put, List.getElem_toArray, List.getElem_cons_zero, List.getElem_cons_succ, List.setIfInBounds_toArray, List.set_cons_zero, List.set_cons_succ]
                refine wpAnyH_take (i := 11) (v := ?_) rfl (by kernel_rfl) (by kernel_rfl) (by kernel_rfl) (fun _ _ _ h => h) (Or.inl ⟨by rfl, ?_⟩) (by assumption) ?_
                rotate_left 1
                · (intro w hSw; (try dsimp only at hSw); go_simp; (try with_reducible rfl))
                simp only [Act.put, List.getElem_toArray, List.getElem_cons_zero, List.getElem_cons_succ, List.setIfInBounds_toArray, List.set_cons_zero, List.set_cons_succ]
                refine wpAnyH_take (i := 12) (v := ?_) rfl (by kernel_rfl) (by kernel_rfl) (by kernel_rfl) (fun _ _ _ h => h) (Or.inl ⟨by rfl, ?_⟩) (by assumption) ?_
                rotate_left 1
                · (intro w hSw; (try dsimp only at hSw); go_simp; (try with_reducible rfl))
                simp only [Act.put, List.getElem_toArray, List.getElem_cons_zero, List.getElem_cons_succ, List.setIfInBounds_toArray, List.set_cons_zero, List.set_cons_succ]
                refine wpAnyH_take (i := 13) (v := undef) rfl (by kernel_rfl) (by kernel_rfl) (by kernel_rfl) (fun _ _ _ h => h) (Or.inr ⟨by rfl, rfl⟩) (by assumption) ?_
                simp only [Act.put, List.getElem_toArray, List.getElem_cons_zero, List.getElem_cons_succ, List.setIfInBounds_toArray, List.set_cons_zero, List.set_cons_succ]
                refine wpAnyH_take (i := 14) (v := undef) rfl (by kernel_rfl) (by kernel_rfl) (by kernel_rfl) (fun _ _ _ h => h) (Or.inr ⟨by rfl, rfl⟩) (by assumption) ?_
                simp only [Act.put, List.getElem_toArray, List.getElem_cons_zero, List.getElem_cons_succ, List.setIfInBounds_toArray, List.set_cons_zero, List.set_cons_succ]
                refine wpAnyH_take (i := 15) (v := undef) rfl (by kernel_rfl) (by kernel_rfl) (by kernel_rfl) (fun _ _ _ h => h) (Or.inr ⟨by rfl, rfl⟩) (by assumption) ?_
                simp only [Act.put, List.getElem_toArray, List.getElem_cons_zero, List.getElem_cons_succ, List.setIfInBounds_toArray, List.set_cons_zero, List.set_cons_succ]
                refine wpAnyH_take (i := 16) (v := undef) rfl (by kernel_rfl) (by kernel_rfl) (by kernel_rfl) (fun _ _ _ h => h) (Or.inr ⟨by rfl, rfl⟩) (by assumption) ?_
                simp only [Act.put, List.getElem_toArray, List.getElem_cons_zero, List.getElem_cons_succ, List.setIfInBounds_toArray, List.set_cons_zero, List.set_cons_succ]
                refine wpAnyH_take (i := 17) (v := undef) rfl (by kernel_rfl) (by kernel_rfl) (by kernel_rfl) (fun _ _ _ h => h) (Or.inr ⟨by rfl, rfl⟩) (by assumption) ?_
                simp only [Act.put, List.getElem_toArray, List.getElem_cons_zero, List.getElem_cons_succ, List.setIfInBounds_toArray, List.set_cons_zero, List.set_cons_succ]
                refine wpAnyH_take (i := 18) (v := undef) rfl (by kernel_rfl) (by kernel_rfl) (by kernel_rfl) (fun _ _ _ h => h) (Or.inr ⟨by rfl, rfl⟩) (by assumption) ?_
                simp only [Act.put, List.getElem_toArray, List.getElem_cons_zero, List.getElem_cons_succ, List.setIfInBounds_toArray, List.set_cons_zero, List.set_cons_succ]
                refine wpAnyH_take (i := 19) (v := undef) rfl (by kernel_rfl) (by kernel_rfl) (by kernel_rfl) (fun _ _ _ h => h) (Or.inr ⟨by rfl, rfl⟩) (by assumption) ?_
                simp only [Act.put, List.getElem_toArray, List.getElem_cons_zero, List.getElem_cons_succ, List.setIfInBounds_toArray, List.set_cons_zero, List.set_cons_succ]
                refine wpAnyH_take (i := 20) (v := undef) rfl (by kernel_rfl) (by kernel_rfl) (by kernel_rfl) (fun _ _ _ h => h) (Or.inr ⟨by rfl, rfl⟩) (by assumption) ?_
                simp only [Act.put, List.getElem_toArray, List.getElem_cons_zero, List.getElem_cons_succ, List.setIfInBounds_toArray, List.set_cons_zero, List.set_cons_succ]
                refine wpAnyH_take (i := 21) (v := undef) rfl (by kernel_rfl) (by kernel_rfl) (by kernel_rfl) (fun _ _ _ h => h) (Or.inr ⟨by rfl, rfl⟩) (by assumption) ?_
                simp only [Act.put, List.getElem_toArray, List.getElem_cons_zero, List.getElem_cons_succ, List.setIfInBounds_toArray, List.set_cons_zero, List.set_cons_succ]
                refine wpAnyH_take (i := 22) (v := undef) rfl (by kernel_rfl) (by kernel_rfl) (by kernel_rfl) (fun _ _ _ h => h) (Or.inr ⟨by rfl, rfl⟩) (by assumption) ?_
                simp only [Act.put, List.getElem_toArray, List.getElem_cons_zero, List.getElem_cons_succ, List.setIfInBounds_toArray, List.set_cons_zero, List.set_cons_succ]
                refine wpAnyH_take (i := 23) (v := undef) rfl (by kernel_rfl) (by kernel_rfl) (by kernel_rfl) (fun _ _ _ h => h) (Or.inr ⟨by rfl, rfl⟩) (by assumption) ?_
                simp only [Act.put, List.getElem_toArray, List.getElem_cons_zero, List.getElem_cons_succ, List.setIfInBounds_toArray, List.set_cons_zero, List.set_cons_succ]
                refine wpAnyH_take (i := 24) (v := undef) rfl (by kernel_rfl) (by kernel_rfl) (by kernel_rfl) (fun _ _ _ h => h) (Or.inr ⟨by rfl, rfl⟩) (by assumption) ?_
                simp only [Act.put, List.getElem_toArray, List.getElem_cons_zero, List.getElem_cons_succ, List.setIfInBounds_toArray, List.set_cons_zero, List.set_cons_succ]
                refine wpAnyH_take (i := 25) (v := undef) rfl (by kernel_rfl) (by kernel_rfl) (by kernel_rfl) (fun _ _ _ h => h) (Or.inr ⟨by rfl, rfl⟩) (by assumption) ?_
                simp only [Act.put, List.getElem_toArray, List.getElem_cons_zero, List.getElem_cons_succ, List.setIfInBounds_toArray, List.set_cons_zero, List.set_cons_succ]
                refine wpAnyH_take (i := 26) (v := ?_) rfl (by kernel_rfl) (by kernel_rfl) (by kernel_rfl) (fun _ _ _ h => h) (Or.inl ⟨by rfl, ?_⟩) (by assumption) ?_
                rotate_left 1
                · (intro w hSw; (try dsimp only at hSw); go_simp; (try with_reducible rfl))
                simp only [Act.put, List.getElem_toArray, List.getElem_cons_zero, List.getElem_cons_succ, List.setIfInBounds_toArray, List.set_cons_zero, List.set_cons_succ]
                refine wpAnyH_done (by kernel_rfl) ?_ _
                have HRE := Lib.hid (show RcPost l m w (.returned (.tuple #[.slice none 0 0, .int .i64 0])) w6 from .inl ⟨HNO.out, rfl, T6.out.free⟩)
                clear T5 T6 q0 q1 q2 q3 q4 q5 z0 z1 z2 z3 z4 z5
                go_wp2
                go_ret2
                exact HRE.out
              have b5 : (k2 == 5) = false := beq_false_of_ne h5
              have d5 : decide (k2 = 5) = false := decide_eq_false h5
              have d5n : (k2 != 5) = true := bne_iff_ne.2 h5
              have HK12 := Lib.hid (show k2 = 1 ∨ k2 = 2 from by
                rcases HK5.out with h | h | h
                · exact .inl h
                · exact .inr h
                · exact absurd h h5)
              clear h5
              rcases Nat.eq_zero_or_pos i with h0 | h0
              · have HGA := Lib.hid (show GoodAt l i ⟨k2, st2, nn2, key2, v2, dd2⟩ from ⟨HR0.out, HK12.out, by rw [h0]; exact notUp_0⟩)
                have d0 : decide (0 < (i : Int)) = false := decide_eq_false (by omega)
                have d0' : decide (0 < i) = false := decide_eq_false (by omega)
                clear h0
                refine wp_region_held_drew (S := fun w' => w'.cell? ⟨g2, 0, none⟩ = some (.int .i64 k2) ∧ w'.cell? ⟨g2, 1, none⟩ = some (.int .i64 st2) ∧ w'.cell? ⟨g2, 2, none⟩ = some (.int .i64 nn2) ∧ w'.cell? ⟨g2, 3, none⟩ = some (.string key2) ∧ w'.cell? ⟨g2, 4, none⟩ = some (.slice Av2 v2.length cv2) ∧ w'.cell? ⟨g2, 5, none⟩ = some (.bool dd2)) (by kernel_rfl) ⟨q0, q1, q2, q3, q4, q5⟩ (fun hHeld => ?_)
                refine wpAnyH_take (i := 0) (v := ?_) rfl (by kernel_rfl) (by kernel_rfl) (by kernel_rfl) (fun _ _ _ h => h) (Or.inl ⟨by rfl, ?_⟩) (by assumption) ?_
                rotate_left 1
                · (intro w hSw; (try dsimp only at hSw); go_simp; (try with_reducible rfl))
                simp only [Act.put, List.getElem_toArray, List.getElem_cons_zero, List.getElem_cons_succ, List.setIfInBounds_toArray, List.set_cons_zero, List.set_cons_succ]
                refine wpAnyH_ready (rs := [1]) (by kernel_rfl) (by simp) ?_
                refine AllReadyH.cons rfl (fun K' hK' => ?_) AllReadyH.nil
                try simp only [List.getElem_toArray, List.getElem_cons_zero, List.getElem_cons_succ]
                try go_simp
                (go_at_call 70; refine (HCK2.out _).mono ?_; rintro e w6 ⟨rfl, hb⟩; have T6 := Lib.hid (T5.out.go ((Below.refl w5.heap.size w5).drew.trans hb)); have z0 := (hb.cell (p := ⟨g2, 0, none⟩) hgl).trans q0; have z1 := (hb.cell (p := ⟨g2, 1, none⟩) hgl).trans q1; have z2 := (hb.cell (p := ⟨g2, 2, none⟩) hgl).trans q2; have z3 := (hb.cell (p := ⟨g2, 3, none⟩) hgl).trans q3; have z4 := (hb.cell (p := ⟨g2, 4, none⟩) hgl).trans q4; have z5 := (hb.cell (p := ⟨g2, 5, none⟩) hgl).trans q5; clear hb)
                refine hK'.out _ _ ⟨z0, z1, z2, z3, z4, z5⟩ (fun hHeld => ?_)
                clear hK' K'
                try simp only [Act.put, List.getElem_toArray, List.getElem_cons_zero, List.getElem_cons_succ, List.setIfInBounds_toArray, List.set_cons_zero, List.set_cons_succ]
                refine wpAnyH_take (i := 2) (v := ?_) rfl (by kernel_rfl) (by kernel_rfl) (by kernel_rfl) (fun _ _ _ h => h) (Or.inl ⟨by rfl, ?_⟩) (by assumption) ?_
                rotate_left 1
                · (intro w hSw; (try dsimp only at hSw); go_simp; (try with_reducible rfl))
                simp only [Act.put, List.getElem_toArray, List.getElem_cons_zero, List.getElem_cons_succ, List.setIfInBounds_toArray, List.set_cons_zero, List.set_cons_succ]
                refine wpAnyH_take (i := 3) (v := ?_) rfl (by kernel_rfl) (by kernel_rfl) (by kernel_rfl) (fun _ _ _ h => h) (Or.inl ⟨by rfl, ?_⟩) (by assumption) ?_
                rotate_left 1
                · (intro w hSw; (try dsimp only at hSw); go_simp; (try with_reducible rfl))
                simp only [Act.put, List.getElem_toArray, List.getElem_cons_zero, List.getElem_cons_succ, List.setIfInBounds_toArray, List.set_cons_zero, List.set_cons_succ]
                refine wpAnyH_take (i := 4) (v := ?_) rfl (by kernel_rfl) (by kernel_rfl) (by kernel_rfl) (fun _ _ _ h => h) (Or.inl ⟨by rfl, ?_⟩) (by assumption) ?_
                rotate_left 1
                · (intro w hSw; (try dsimp only at hSw); go_simp; (try with_reducible rfl))
                simp only [Act.put, List.getElem_toArray, List.getElem_cons_zero, List.getElem_cons_succ, List.setIfInBounds_toArray, List.set_cons_zero, List.set_cons_succ]
                refine wpAnyH_take (i := 5) (v := ?_) rfl (by kernel_rfl) (by kernel_rfl) (by kernel_rfl) (fun _ _ _ h => h) (Or.inl ⟨by rfl, ?_⟩) (by assumption) ?_
                rotate_left 1
                · (intro w hSw; (try dsimp only at hSw); go_simp; (try with_reducible rfl))
                simp only [Act.put, List.getElem_toArray, List.getElem_cons_zero, List.getElem_cons_succ, List.setIfInBounds_toArray, List.set_cons_zero, List.set_cons_succ]
                refine wpAnyH_take (i := 6) (v := ?_) rfl (by kernel_rfl) (by kernel_rfl) (by kernel_rfl) (fun _ _ _ h => h) (Or.inl ⟨by rfl, ?_⟩) (by assumption) ?_
                rotate_left 1
                · (intro w hSw; (try dsimp only at hSw); go_simp; (try with_reducible rfl))
                simp only [Act.put, List.getElem_toArray, List.getElem_cons_zero, List.getElem_cons_succ, List.setIfInBounds_toArray, List.set_cons_zero, List.set_cons_succ]
                refine wpAnyH_take (i := 7) (v := ?_) rfl (by kernel_rfl) (by kernel_rfl) (by kernel_rfl) (fun _ _ _ h => h) (Or.inl ⟨by rfl, ?_⟩) (by assumption) ?_
                rotate_left 1
                · (intro w hSw; (try dsimp only at hSw); go_simp; (try with_reducible rfl))
                simp only [Act.put, List.getElem_toArray, List.getElem_cons_zero, List.getElem_cons_succ, List.setIfInBounds_toArray, List.set_cons_zero, List.set_cons_succ]
                refine wpAnyH_take (i := 8) (v := ?_) rfl (by kernel_rfl) (by kernel_rfl) (by kernel_rfl) (fun _ _ _ h => h) (Or.inl ⟨by rfl, ?_⟩) (by assumption) ?_
                rotate_left 1
                · (intro w hSw; (try dsimp only at hSw); go_simp; (try with_reducible rfl))
                simp only [Act.put, List.getElem_toArray, List.getElem_cons_zero, List.getElem_cons_succ, List.setIfInBounds_toArray, List.set_cons_zero, List.set_cons_succ]
                refine wpAnyH_take (i := 9) (v := ?_) rfl (by kernel_rfl) (by kernel_rfl) (by kernel_rfl) (fun _ _ _ h => h) (Or.inl ⟨by rfl, ?_⟩) (by assumption) ?_
                rotate_left 1
                · (intro w hSw; (try dsimp only at hSw); go_simp; (try with_reducible rfl))
                simp only [Act.put, List.getElem_toArray, List.getElem_cons_zero, List.getElem_cons_succ, List.setIfInBounds_toArray, List.set_cons_zero, List.set_cons_succ]
                refine wpAnyH_take (i := 10) (v := ?_) rfl (by kernel_rfl) (by kernel_rfl) (by kernel_rfl) (fun _ _ _ h => h) (Or.inl ⟨by rfl, ?_⟩) (by assumption) ?_
                rotate_left 1
                · (intro w hSw; (try dsimp only at hSw); go_simp; (try with_reducible rfl))
                simp only [Act.put, List.getElem_toArray, List.getElem_cons_zero, List.getElem_cons_succ, List.setIfInBounds_toArray, List.set_cons_zero, List.set_cons_succ]
                refine wpAnyH_take (i := 11) (v := ?_) rfl (by kernel_rfl) (by kernel_rfl) (by kernel_rfl) (fun _ _ _ h => h) (Or.inl ⟨by rfl, ?_⟩) (by assumption) ?_
                rotate_left 1
                · (intro w hSw; (try dsimp only at hSw); go_simp; (try with_reducible rfl))
                simp only [Act.put, List.getElem_toArray, List.getElem_cons_zero, List.getElem_cons_succ, List.setIfInBounds_toArray, List.set_cons_zero, List.set_cons_succ]
                refine wpAnyH_take (i := 12) (v := ?_) rfl (by kernel_rfl) (by kernel_rfl) (by kernel_rfl) (fun _ _ _ h => h) (Or.inl ⟨by rfl, ?_⟩) (by assumption) ?_
                rotate_left 1
                · (intro w hSw; (try dsimp only at hSw); go_simp; (try with_reducible rfl))
                simp only [Act.put, List.getElem_toArray, List.getElem_cons_zero, List.getElem_cons_succ, List.setIfInBounds_toArray, List.set_cons_zero, List.set_cons_succ]
                refine wpAnyH_take (i := 13) (v := ?_) rfl (by kernel_rfl) (by kernel_rfl) (by kernel_rfl) (fun _ _ _ h => h) (Or.inl ⟨by rfl, ?_⟩) (by assumption) ?_
                rotate_left 1
                · (intro w hSw; (try dsimp only at hSw); go_simp; (try with_reducible rfl))
                simp only [Act.put, List.getElem_toArray, List.getElem_cons_zero, List.getElem_cons_succ, List.setIfInBounds_toArray, List.set_cons_zero, List.set_cons_succ]
                refine wpAnyH_take (i := 14) (v := ?_) rfl (by kernel_rfl) (by kernel_rfl) (by kernel_rfl) (fun _ _ _ h => h) (Or.inl ⟨by rfl, ?_⟩) (by assumption) ?_
                rotate_left 1
                · (intro w hSw; (try dsimp only at hSw); go_simp; (try with_reducible rfl))
                simp only [Act.put, List.getElem_toArray, List.getElem_cons_zero, List.getElem_cons_succ, List.setIfInBounds_toArray, List.set_cons_zero, List.set_cons_succ]
                refine wpAnyH_take (i := 15) (v := ?_) rfl (by kernel_rfl) (by kernel_rfl) (by kernel_rfl) (fun _ _ _ h => h) (Or.inl ⟨by rfl, ?_⟩) (by assumption) ?_
                rotate_left 1
                · (intro w hSw; (try dsimp only at hSw); go_simp; (try with_reducible rfl))
                simp only [Act.put, List.getElem_toArray, List.getElem_cons_zero, List.getElem_cons_succ, List.setIfInBounds_toArray, List.set_cons_zero, List.set_cons_succ]
                refine wpAnyH_take (i := 16) (v := undef) rfl (by kernel_rfl) (by kernel_rfl) (by kernel_rfl) (fun _ _ _ h => h) (Or.inr ⟨by rfl, rfl⟩) (by assumption) ?_
                simp only [Act.put, List.getElem_toArray, List.getElem_cons_zero, List.getElem_cons_succ, List.setIfInBounds_toArray, List.set_cons_zero, List.set_cons_succ]
                refine wpAnyH_take (i := 17) (v := undef) rfl (by kernel_rfl) (by kernel_rfl) (by kernel_rfl) (fun _ _ _ h => h) (Or.inr ⟨by rfl, rfl⟩) (by assumption) ?_
                simp only [Act.put, List.getElem_toArray, List.getElem_cons_zero, List.getElem_cons_succ, List.setIfInBounds_toArray, List.set_cons_zero, List.set_cons_succ]
                refine wpAnyH_take (i := 18) (v := undef) rfl (by kernel_rfl) (by kernel_rfl) (by kernel_rfl) (fun _ _ _ h => h) (Or.inr ⟨by rfl, rfl⟩) (by assumption) ?_
                simp only [Act.put, List.getElem_toArray, List.getElem_cons_zero, List.getElem_cons_succ, List.setIfInBounds_toArray, List.set_cons_zero, List.set_cons_succ]
                refine wpAnyH_take (i := 19) (v := undef) rfl (by kernel_rfl) (by kernel_rfl) (by kernel_rfl) (fun _ _ _ h => h) (Or.inr ⟨by rfl, rfl⟩) (by assumption) ?_
                simp only [Act.put, List.getElem_toArray, List.getElem_cons_zero, List.getElem_cons_succ, List.setIfInBounds_toArray, List.set_cons_zero, List.set_cons_succ]
                refine wpAnyH_take (i := 20) (v := undef) rfl (by kernel_rfl) (by kernel_rfl) (by kernel_rfl) (fun _ _ _ h => h) (Or.inr ⟨by rfl, rfl⟩) (by assumption) ?_
                simp only [Act.put, List.getElem_toArray, List.getElem_cons_zero, List.getElem_cons_succ, List.setIfInBounds_toArray, List.set_cons_zero, List.set_cons_succ]
                refine wpAnyH_take (i := 21) (v := undef) rfl (by kernel_rfl) (by kernel_rfl) (by kernel_rfl) (fun _ _ _ h => h) (Or.inr ⟨by rfl, rfl⟩) (by assumption) ?_
                simp only [Act.put, List.getElem_toArray, List.getElem_cons_zero, List.getElem_cons_succ, List.setIfInBounds_toArray, List.set_cons_zero, List.set_cons_succ]
                refine wpAnyH_take (i := 22) (v := undef) rfl (by kernel_rfl) (by kernel_rfl) (by kernel_rfl) (fun _ _ _ h => h) (Or.inr ⟨by rfl, rfl⟩) (by assumption) ?_
                simp only [Act.put, List.getElem_toArray, List.getElem_cons_zero, List.getElem_cons_succ, List.setIfInBounds_toArray, List.set_cons_zero, List.set_cons_succ]
                refine wpAnyH_take (i := 23) (v := undef) rfl (by kernel_rfl) (by kernel_rfl) (by kernel_rfl) (fun _ _ _ h => h) (Or.inr ⟨by rfl, rfl⟩) (by assumption) ?_
                simp only [Act.put, List.getElem_toArray, List.getElem_cons_zero, List.getElem_cons_succ, List.setIfInBounds_toArray, List.set_cons_zero, List.set_cons_succ]
                refine wpAnyH_take (i := 24) (v := undef) rfl (by kernel_rfl) (by kernel_rfl) (by kernel_rfl) (fun _ _ _ h => h) (Or.inr ⟨by rfl, rfl⟩) (by assumption) ?_
                simp only [Act.put, List.getElem_toArray, List.getElem_cons_zero, List.getElem_cons_succ, List.setIfInBounds_toArray, List.set_cons_zero, List.set_cons_succ]
                refine wpAnyH_take (i := 25) (v := ?_) rfl (by kernel_rfl) (by kernel_rfl) (by kernel_rfl) (fun _ _ _ h => h) (Or.inl ⟨by rfl, ?_⟩) (by assumption) ?_
                rotate_left 1
                · (intro w hSw; (try dsimp only at hSw); go_simp; (try with_reducible rfl))
                simp only [Act.put, List.getElem_toArray, List.getElem_cons_zero, List.getElem_cons_succ, List.setIfInBounds_toArray, List.set_cons_zero, List.set_cons_succ]
                refine wpAnyH_take (i := 26) (v := ?_) rfl (by kernel_rfl) (by kernel_rfl) (by kernel_rfl) (fun _ _ _ h => h) (Or.inl ⟨by rfl, ?_⟩) (by assumption) ?_
                rotate_left 1
                · (intro w hSw; (try dsimp only at hSw); go_simp; (try with_reducible rfl))
                simp only [Act.put, List.getElem_toArray, List.getElem_cons_zero, List.getElem_cons_succ, List.setIfInBounds_toArray, List.set_cons_zero, List.set_cons_succ]
                refine wpAnyH_done (by kernel_rfl) ?_ _
                have HG1 := Lib.hid (HGD.out.2.add hil HX2.out HGA.out)
                clear q0 q1 q2 q3 q4 q5 z0 z1 z2 z3 z4 z5 T5
                have y1 := Blk.cell (show Blk w6 g _ #[.int .i64 3, .int .i64 m, .int .i64 K, .string key, .slice Av v.length cv, .bool dd] from T6.out.get (i := 3) rfl) 1
                have y4 := Blk.cell (show Blk w6 gv _ #[.string vk, .int .i64 vs, .slice A4 vv.length c4, .bool vd] from T6.out.get (i := 0) rfl) 1
                have f4 := Blk.frozen (show Blk w6 gv _ #[.string vk, .int .i64 vs, .slice A4 vv.length c4, .bool vd] from T6.out.get (i := 0) rfl) 1
                simp only [List.getElem?_toArray, List.getElem?_cons_zero, List.getElem?_cons_succ] at y1 y4
                obtain ⟨w7, hw7⟩ : ∃ y, y = w6.setCell ⟨gv, 1, none⟩ (.int .i64 m) := ⟨_, rfl⟩
                have HW7 := Lib.hid hw7
                have T7 := Lib.hid (show Turn (Item.all []) w (Item.all [Item.blk gv 88 #[.string vk, .int .i64 m, .slice A4 vv.length c4, .bool vd], Item.row (.slice A4 vv.length c4) vv, Item.blk g2 26 #[.int .i64 k2, .int .i64 st2, .int .i64 nn2, .string key2, .slice Av2 v2.length cv2, .bool dd2], Item.blk g 26 #[.int .i64 3, .int .i64 m, .int .i64 K, .string key, .slice Av v.length cv, .bool dd], gV A' i c' hs]) w7 from by
                  rw [hw7]
                  exact T6.out.step (i := 0) rfl (Turn.cell (T6.out.get (i := 0) rfl) 1 (.int .i64 m)))
                clear hw7 T6
                go_upto_region 17 with fail
                rw [← HW7.out]
                clear HW7 y1 y4 f4
                have x0 := Blk.cell (show Blk w7 gv _ #[.string vk, .int .i64 m, .slice A4 vv.length c4, .bool vd] from T7.out.get (i := 0) rfl) 0
                have x1 := Blk.cell (show Blk w7 gv _ #[.string vk, .int .i64 m, .slice A4 vv.length c4, .bool vd] from T7.out.get (i := 0) rfl) 1
                have x2 := Blk.cell (show Blk w7 gv _ #[.string vk, .int .i64 m, .slice A4 vv.length c4, .bool vd] from T7.out.get (i := 0) rfl) 2
                have x3 := Blk.cell (show Blk w7 gv _ #[.string vk, .int .i64 m, .slice A4 vv.length c4, .bool vd] from T7.out.get (i := 0) rfl) 3
                simp only [List.getElem?_toArray, List.getElem?_cons_zero, List.getElem?_cons_succ] at x0 x1 x2 x3
                go_wp2_with (at_builtin; refine Stop.of ?_)
                have T8 := Lib.hid (T7.out.go ((Below.refl w7.heap.size w7).alloc (Nat.le_refl _) (.cells #[.string vk, .int .i64 m, .slice A4 vv.length c4, .bool vd] 88)))
                refine ⟨wpList_append_any _ rfl rfl 0 Try.underlying42 info_ver rfl (by decide) (by decide) rfl (show World.ownsRow _ 0 88 4 (.slice A' i c') i (hvCells hs) from Item.all_get (T8.out.get (i := 4) rfl) (List.mem_cons_self ..)) rfl (fresh_src (Blk.new w7 88 #[.string vk, .int .i64 m, .slice A4 vv.length c4, .bool vd]) Try.underlying42 rfl (by decide) rfl) (by omega) (Nat.zero_le _) ?_⟩
                intro v' w8 ho hg hf
                obtain ⟨A8, c8, rfl, _, _⟩ := own_slice ho
                have T9 := Lib.hid (show Turn (Item.all []) w (Item.all [Item.blk g 26 #[.int .i64 3, .int .i64 m, .int .i64 K, .string key, .slice Av v.length cv, .bool dd], gV A8 (i + 1) c8 (hs ++ [⟨⟨vk, m, vv, vd⟩, A4, c4⟩])]) w8 from by
                  have t := T8.out.step (i := 4) rfl (gV_app (t := ⟨⟨vk, m, vv, vd⟩, A4, c4⟩) (T8.out.get (i := 4) rfl) ho hg hf)
                  have t2 := gV_joinL (t := ⟨⟨vk, m, vv, vd⟩, A4, c4⟩) (t.by_ 5 rfl [4, 1, 3, 0, 2] (by decide))
                  exact (t2.by_ 4 rfl [1, 0, 2, 3] (by decide)).sub (List.Sublist.cons_cons _ (List.Sublist.cons_cons _ (List.nil_sublist _))))
                have HRR := Lib.hid (show RcIn w l m g (⟨3, m, K, key, v, dd⟩ : En) Av cv (i + 1) c8 A8 w8 from ⟨_, by
                  rw [List.map_append, HGD.out.1, List.take_succ_eq_append_getElem hil, List.map_append, ← HX2.out]
                  show _ ++ [_] = _ ++ [wOf m _]
                  unfold wOf
                  rw [← HVV.out], HG1.out, T9.out⟩)
                clear ho hg hf T7 T8 T9 x0 x1 x2 x3
                go_wp2
                exact ⟨⟨i + 1, c8, A8, by go_num, rfl, hii, HRR⟩, by simp [intOf]; omega⟩
              · obtain ⟨J, hJ⟩ : ∃ J, i = J + 1 := ⟨i - 1, by omega⟩
                have hJl : J < l.length := by omega
                obtain ⟨bb', off', Av', cv', hA', hbb', _, _, _, _, r3, _, _, _⟩ := en_at (HS.out.below (T5.out.free.trans ((Below.refl _ _).drew))) hJl
                injection hA' with hA'
                injection hA' with e1 e2
                subst e1; subst e2
                obtain ⟨lk, hlk⟩ : ∃ k, k = (l[J]).key := ⟨_, rfl⟩
                rw [← hlk] at r3
                have hob : bb < w5.drew.heap.size := Nat.lt_of_lt_of_le hbb' T5.out.free.size
                have HUE := Lib.hid (show notUp (l.take i) ⟨k2, st2, nn2, key2, v2, dd2⟩ = !Op.bytesLess lk.toList key2.toList from by
                  have h := notUp_J (x := ⟨k2, st2, nn2, key2, v2, dd2⟩) hJl hlk
                  rw [hJ, h, less_leB, Bool.not_not])
                have hJn : J < M := by omega
                have hJw : IntKind.i64.wrap ((i : Int) - 1) = (J : Int) := by rw [IntKind.wrap_i64]; omega
                have hJ1 : (i : Int) - 1 = (J : Int) := by omega
                have hJi : (J : Int) < (M : Int) := by omega
                have hJw2 : IntKind.i64.wrap (J : Int) = (J : Int) := by rw [IntKind.wrap_i64]; omega
                have hJ0 : (0 : Int) ≤ (J : Int) := by omega
                have d0 : decide (0 < (i : Int)) = true := decide_eq_true (by omega)
                have d0' : decide (0 < i) = true := decide_eq_true (by omega)
                clear hJ h0 hbb' hlk
                cases hB : Op.bytesLess lk.toList key2.toList with
                | true =>
                  have HGA := Lib.hid (show GoodAt l i ⟨k2, st2, nn2, key2, v2, dd2⟩ from ⟨HR0.out, HK12.out, by rw [HUE.out, hB]; rfl⟩)
                  refine wp_region_held_drew (S := fun w' => w'.cell? ⟨g2, 0, none⟩ = some (.int .i64 k2) ∧ w'.cell? ⟨g2, 1, none⟩ = some (.int .i64 st2) ∧ w'.cell? ⟨g2, 2, none⟩ = some (.int .i64 nn2) ∧ w'.cell? ⟨g2, 3, none⟩ = some (.string key2) ∧ w'.cell? ⟨g2, 4, none⟩ = some (.slice Av2 v2.length cv2) ∧ w'.cell? ⟨g2, 5, none⟩ = some (.bool dd2) ∧ w'.cell? ⟨bb, off + J * 6 + 3, none⟩ = some (.string lk)) (by kernel_rfl) ⟨q0, q1, q2, q3, q4, q5, r3⟩ (fun hHeld => ?_)
                  refine wpAnyH_take (i := 0) (v := ?_) rfl (by kernel_rfl) (by kernel_rfl) (by kernel_rfl) (fun _ _ _ h => h) (Or.inl ⟨by rfl, ?_⟩) (by assumption) ?_
                  rotate_left 1
                  · (intro w hSw; (try dsimp only at hSw); go_simp; (try with_reducible rfl))
                  simp only [Act.put, List.getElem_toArray, List.getElem_cons_zero, List.getElem_cons_succ, List.setIfInBounds_toArray, List.set_cons_zero, List.set_cons_succ]
                  refine wpAnyH_ready (rs := [1]) (by kernel_rfl) (by simp) ?_
                  refine AllReadyH.cons rfl (fun K' hK' => ?_) AllReadyH.nil
                  try simp only [List.getElem_toArray, List.getElem_cons_zero, List.getElem_cons_succ]
                  try go_simp
                  (go_at_call 70; refine (HCK2.out _).mono ?_; rintro e w6 ⟨rfl, hb⟩; have T6 := Lib.hid (T5.out.go ((Below.refl w5.heap.size w5).drew.trans hb)); have z0 := (hb.cell (p := ⟨g2, 0, none⟩) hgl).trans q0; have z1 := (hb.cell (p := ⟨g2, 1, none⟩) hgl).trans q1; have z2 := (hb.cell (p := ⟨g2, 2, none⟩) hgl).trans q2; have z3 := (hb.cell (p := ⟨g2, 3, none⟩) hgl).trans q3; have z4 := (hb.cell (p := ⟨g2, 4, none⟩) hgl).trans q4; have z5 := (hb.cell (p := ⟨g2, 5, none⟩) hgl).trans q5; have z6 := (hb.cell (p := ⟨bb, off + J * 6 + 3, none⟩) hob).trans r3; clear hb)
                  refine hK'.out _ _ ⟨z0, z1, z2, z3, z4, z5, z6⟩ (fun hHeld => ?_)
                  clear hK' K'
                  try simp only [Act.put, List.getElem_toArray, List.getElem_cons_zero, List.getElem_cons_succ, List.setIfInBounds_toArray, List.set_cons_zero, List.set_cons_succ]
                  refine wpAnyH_take (i := 2) (v := ?_) rfl (by kernel_rfl) (by kernel_rfl) (by kernel_rfl) (fun _ _ _ h => h) (Or.inl ⟨by rfl, ?_⟩) (by assumption) ?_
                  rotate_left 1
                  · (intro w hSw; (try dsimp only at hSw); go_simp; (try with_reducible rfl))
                  simp only [Act.put, List.getElem_toArray, List.getElem_cons_zero, List.getElem_cons_succ, List.setIfInBounds_toArray, List.set_cons_zero, List.set_cons_succ]
                  refine wpAnyH_take (i := 3) (v := ?_) rfl (by kernel_rfl) (by kernel_rfl) (by kernel_rfl) (fun _ _ _ h => h) (Or.inl ⟨by rfl, ?_⟩) (by assumption) ?_
                  rotate_left 1
                  · (intro w hSw; (try dsimp only at hSw); go_simp; (try with_reducible rfl))
                  simp only [Act.put, List.getElem_toArray, List.getElem_cons_zero, List.getElem_cons_succ, List.setIfInBounds_toArray, List.set_cons_zero, List.set_cons_succ]
                  refine wpAnyH_take (i := 4) (v := ?_) rfl (by kernel_rfl) (by kernel_rfl) (by kernel_rfl) (fun _ _ _ h => h) (Or.inl ⟨by rfl, ?_⟩) (by assumption) ?_
                  rotate_left 1
                  · (intro w hSw; (try dsimp only at hSw); go_simp; (try with_reducible rfl))
                  simp only [Act.put, List.getElem_toArray, List.getElem_cons_zero, List.getElem_cons_succ, List.setIfInBounds_toArray, List.set_cons_zero, List.set_cons_succ]
                  refine wpAnyH_take (i := 5) (v := ?_) rfl (by kernel_rfl) (by kernel_rfl) (by kernel_rfl) (fun _ _ _ h => h) (Or.inl ⟨by rfl, ?_⟩) (by assumption) ?_
                  rotate_left 1
                  · (intro w hSw; (try dsimp only at hSw); go_simp; (try with_reducible rfl))
                  simp only [Act.put, List.getElem_toArray, List.getElem_cons_zero, List.getElem_cons_succ, List.setIfInBounds_toArray, List.set_cons_zero, List.set_cons_succ]
                  refine wpAnyH_take (i := 6) (v := ?_) rfl (by kernel_rfl) (by kernel_rfl) (by kernel_rfl) (fun _ _ _ h => h) (Or.inl ⟨by rfl, ?_⟩) (by assumption) ?_
                  rotate_left 1
                  · (intro w hSw; (try dsimp only at hSw); go_simp; (try with_reducible rfl))
                  simp only [Act.put, List.getElem_toArray, List.getElem_cons_zero, List.getElem_cons_succ, List.setIfInBounds_toArray, List.set_cons_zero, List.set_cons_succ]
                  refine wpAnyH_take (i := 7) (v := ?_) rfl (by kernel_rfl) (by kernel_rfl) (by kernel_rfl) (fun _ _ _ h => h) (Or.inl ⟨by rfl, ?_⟩) (by assumption) ?_
                  rotate_left 1
                  · (intro w hSw; (try dsimp only at hSw); go_simp; (try with_reducible rfl))
                  simp only [Act.put, List.getElem_toArray, List.getElem_cons_zero, List.getElem_cons_succ, List.setIfInBounds_toArray, List.set_cons_zero, List.set_cons_succ]
                  refine wpAnyH_take (i := 8) (v := ?_) rfl (by kernel_rfl) (by kernel_rfl) (by kernel_rfl) (fun _ _ _ h => h) (Or.inl ⟨by rfl, ?_⟩) (by assumption) ?_
                  rotate_left 1
                  · (intro w hSw; (try dsimp only at hSw); go_simp; (try with_reducible rfl))
                  simp only [Act.put, List.getElem_toArray, List.getElem_cons_zero, List.getElem_cons_succ, List.setIfInBounds_toArray, List.set_cons_zero, List.set_cons_succ]
                  refine wpAnyH_take (i := 9) (v := ?_) rfl (by kernel_rfl) (by kernel_rfl) (by kernel_rfl) (fun _ _ _ h => h) (Or.inl ⟨by rfl, ?_⟩) (by assumption) ?_
                  rotate_left 1
                  · (intro w hSw; (try dsimp only at hSw); go_simp; (try with_reducible rfl))
                  simp only [Act.put, List.getElem_toArray, List.getElem_cons_zero, List.getElem_cons_succ, List.setIfInBounds_toArray, List.set_cons_zero, List.set_cons_succ]
                  refine wpAnyH_take (i := 10) (v := ?_) rfl (by kernel_rfl) (by kernel_rfl) (by kernel_rfl) (fun _ _ _ h => h) (Or.inl ⟨by rfl, ?_⟩) (by assumption) ?_
                  rotate_left 1
                  · (intro w hSw; (try dsimp only at hSw); go_simp; (try with_reducible rfl))
                  simp only [Act.put, List.getElem_toArray, List.getElem_cons_zero, List.getElem_cons_succ, List.setIfInBounds_toArray, List.set_cons_zero, List.set_cons_succ]
                  refine wpAnyH_take (i := 11) (v := ?_) rfl (by kernel_rfl) (by kernel_rfl) (by kernel_rfl) (fun _ _ _ h => h) (Or.inl ⟨by rfl, ?_⟩) (by assumption) ?_
                  rotate_left 1
                  · (intro w hSw; (try dsimp only at hSw); go_simp; (try with_reducible rfl))
                  simp only [Act.put, List.getElem_toArray, List.getElem_cons_zero, List.getElem_cons_succ, List.setIfInBounds_toArray, List.set_cons_zero, List.set_cons_succ]
                  refine wpAnyH_take (i := 12) (v := ?_) rfl (by kernel_rfl) (by kernel_rfl) (by kernel_rfl) (fun _ _ _ h => h) (Or.inl ⟨by rfl, ?_⟩) (by assumption) ?_
                  rotate_left 1
                  · (intro w hSw; (try dsimp only at hSw); go_simp; (try with_reducible rfl))
                  simp only [Act.put, List.getElem_toArray, List.getElem_cons_zero, List.getElem_cons_succ, List.setIfInBounds_toArray, List.set_cons_zero, List.set_cons_succ]
                  refine wpAnyH_take (i := 13) (v := ?_) rfl (by kernel_rfl) (by kernel_rfl) (by kernel_rfl) (fun _ _ _ h => h) (Or.inl ⟨by rfl, ?_⟩) (by assumption) ?_
                  rotate_left 1
                  · (intro w hSw; (try dsimp only at hSw); go_simp; (try with_reducible rfl))
                  simp only [Act.put, List.getElem_toArray, List.getElem_cons_zero, List.getElem_cons_succ, List.setIfInBounds_toArray, List.set_cons_zero, List.set_cons_succ]
                  refine wpAnyH_take (i := 14) (v := ?_) rfl (by kernel_rfl) (by kernel_rfl) (by kernel_rfl) (fun _ _ _ h => h) (Or.inl ⟨by rfl, ?_⟩) (by assumption) ?_
                  rotate_left 1
                  · (intro w hSw; (try dsimp only at hSw); go_simp; (try with_reducible rfl))
                  simp only [Act.put, List.getElem_toArray, List.getElem_cons_zero, List.getElem_cons_succ, List.setIfInBounds_toArray, List.set_cons_zero, List.set_cons_succ]
                  refine wpAnyH_take (i := 15) (v := ?_) rfl (by kernel_rfl) (by kernel_rfl) (by kernel_rfl) (fun _ _ _ h => h) (Or.inl ⟨by rfl, ?_⟩) (by assumption) ?_
                  rotate_left 1
                  · (intro w hSw; (try dsimp only at hSw); go_simp; (try with_reducible rfl))
                  simp only [Act.put, List.getElem_toArray, List.getElem_cons_zero, List.getElem_cons_succ, List.setIfInBounds_toArray, List.set_cons_zero, List.set_cons_succ]
                  refine wpAnyH_take (i := 16) (v := ?_) rfl (by kernel_rfl) (by kernel_rfl) (by kernel_rfl) (fun _ _ _ h => h) (Or.inl ⟨by rfl, ?_⟩) (by assumption) ?_
                  rotate_left 1
                  · (intro w hSw; (try dsimp only at hSw); go_simp; (try with_reducible rfl))
                  simp only [Act.put, List.getElem_toArray, List.getElem_cons_zero, List.getElem_cons_succ, List.setIfInBounds_toArray, List.set_cons_zero, List.set_cons_succ]
                  refine wpAnyH_take (i := 17) (v := ?_) rfl (by kernel_rfl) (by kernel_rfl) (by kernel_rfl) (fun _ _ _ h => h) (Or.inl ⟨by rfl, ?_⟩) (by assumption) ?_
                  rotate_left 1
                  · (intro w hSw; (try dsimp only at hSw); go_simp; (try with_reducible rfl))
                  simp only [Act.put, List.getElem_toArray, List.getElem_cons_zero, List.getElem_cons_succ, List.setIfInBounds_toArray, List.set_cons_zero, List.set_cons_succ]
                  refine wpAnyH_take (i := 18) (v := ?_) rfl (by kernel_rfl) (by kernel_rfl) (by kernel_rfl) (fun _ _ _ h => h) (Or.inl ⟨by rfl, ?_⟩) (by assumption) ?_
                  rotate_left 1
                  · (intro w hSw; (try dsimp only at hSw); go_simp; (try with_reducible rfl))
                  simp only [Act.put, List.getElem_toArray, List.getElem_cons_zero, List.getElem_cons_succ, List.setIfInBounds_toArray, List.set_cons_zero, List.set_cons_succ]
                  refine wpAnyH_take (i := 19) (v := ?_) rfl (by kernel_rfl) (by kernel_rfl) (by kernel_rfl) (fun _ _ _ h => h) (Or.inl ⟨by rfl, ?_⟩) (by assumption) ?_
                  rotate_left 1
                  · (intro w hSw; (try dsimp only at hSw); go_simp; (try with_reducible rfl))
                  simp only [Act.put, List.getElem_toArray, List.getElem_cons_zero, List.getElem_cons_succ, List.setIfInBounds_toArray, List.set_cons_zero, List.set_cons_succ]
                  refine wpAnyH_take (i := 20) (v := ?_) rfl (by kernel_rfl) (by kernel_rfl) (by kernel_rfl) (fun _ _ _ h => h) (Or.inl ⟨by rfl, ?_⟩) (by assumption) ?_
                  rotate_left 1
                  · (intro w hSw; (try dsimp only at hSw); go_simp; (try with_reducible rfl))
                  simp only [Act.put, List.getElem_toArray, List.getElem_cons_zero, List.getElem_cons_succ, List.setIfInBounds_toArray, List.set_cons_zero, List.set_cons_succ]
                  refine wpAnyH_take (i := 21) (v := ?_) rfl (by kernel_rfl) (by kernel_rfl) (by kernel_rfl) (fun _ _ _ h => h) (Or.inl ⟨by rfl, ?_⟩) (by assumption) ?_
                  rotate_left 1
                  · (intro w hSw; (try dsimp only at hSw); go_simp; (try with_reducible rfl))
                  simp only [Act.put, List.getElem_toArray, List.getElem_cons_zero, List.getElem_cons_succ, List.setIfInBounds_toArray, List.set_cons_zero, List.set_cons_succ]
                  refine wpAnyH_take (i := 22) (v := ?_) rfl (by kernel_rfl) (by kernel_rfl) (by kernel_rfl) (fun _ _ _ h => h) (Or.inl ⟨by rfl, ?_⟩) (by assumption) ?_
                  rotate_left 1
                  · (intro w hSw; (try dsimp only at hSw); go_simp; (try with_reducible rfl))
                  simp only [Act.put, List.getElem_toArray, List.getElem_cons_zero, List.getElem_cons_succ, List.setIfInBounds_toArray, List.set_cons_zero, List.set_cons_succ]
                  refine wpAnyH_take (i := 23) (v := ?_) rfl (by kernel_rfl) (by kernel_rfl) (by kernel_rfl) (fun _ _ _ h => h) (Or.inl ⟨by rfl, ?_⟩) (by assumption) ?_
                  rotate_left 1
                  · (intro w hSw; (try dsimp only at hSw); go_simp; (try with_reducible rfl))
                  simp only [Act.put, List.getElem_toArray, List.getElem_cons_zero, List.getElem_cons_succ, List.setIfInBounds_toArray, List.set_cons_zero, List.set_cons_succ]
                  refine wpAnyH_take (i := 24) (v := ?_) rfl (by kernel_rfl) (by kernel_rfl) (by kernel_rfl) (fun _ _ _ h => h) (Or.inl ⟨by rfl, ?_⟩) (by assumption) ?_
                  rotate_left 1
                  · (intro w hSw; (try dsimp only at hSw); go_simp; (try with_reducible rfl))
                  simp only [Act.put, List.getElem_toArray, List.getElem_cons_zero, List.getElem_cons_succ, List.setIfInBounds_toArray, List.set_cons_zero, List.set_cons_succ]
                  refine wpAnyH_take (i := 25) (v := ?_) rfl (by kernel_rfl) (by kernel_rfl) (by kernel_rfl) (fun _ _ _ h => h) (Or.inl ⟨by rfl, ?_⟩) (by assumption) ?_
                  rotate_left 1
                  · (intro w hSw; (try dsimp only at hSw); go_simp; (try with_reducible rfl))
                  simp only [Act.put, List.getElem_toArray, List.getElem_cons_zero, List.getElem_cons_succ, List.setIfInBounds_toArray, List.set_cons_zero, List.set_cons_succ]
                  refine wpAnyH_take (i := 26) (v := ?_) rfl (by kernel_rfl) (by kernel_rfl) (by kernel_rfl) (fun _ _ _ h => h) (Or.inl ⟨by rfl, ?_⟩) (by assumption) ?_
                  rotate_left 1
                  · (intro w hSw; (try dsimp only at hSw); go_simp; (try with_reducible rfl))
                  simp only [Act.put, List.getElem_toArray, List.getElem_cons_zero, List.getElem_cons_succ, List.setIfInBounds_toArray, List.set_cons_zero, List.set_cons_succ]
                  refine wpAnyH_done (by kernel_rfl) ?_ _
                  clear r3 z6 hJn hJw hJ1 hJi hJw2 hJ0 hob
                  have HG1 := Lib.hid (HGD.out.2.add hil HX2.out HGA.out)
                  clear q0 q1 q2 q3 q4 q5 z0 z1 z2 z3 z4 z5 T5
                  have y1 := Blk.cell (show Blk w6 g _ #[.int .i64 3, .int .i64 m, .int .i64 K, .string key, .slice Av v.length cv, .bool dd] from T6.out.get (i := 3) rfl) 1
                  have y4 := Blk.cell (show Blk w6 gv _ #[.string vk, .int .i64 vs, .slice A4 vv.length c4, .bool vd] from T6.out.get (i := 0) rfl) 1
                  have f4 := Blk.frozen (show Blk w6 gv _ #[.string vk, .int .i64 vs, .slice A4 vv.length c4, .bool vd] from T6.out.get (i := 0) rfl) 1
                  simp only [List.getElem?_toArray, List.getElem?_cons_zero, List.getElem?_cons_succ] at y1 y4
                  obtain ⟨w7, hw7⟩ : ∃ y, y = w6.setCell ⟨gv, 1, none⟩ (.int .i64 m) := ⟨_, rfl⟩
                  have HW7 := Lib.hid hw7
                  have T7 := Lib.hid (show Turn (Item.all []) w (Item.all [Item.blk gv 88 #[.string vk, .int .i64 m, .slice A4 vv.length c4, .bool vd], Item.row (.slice A4 vv.length c4) vv, Item.blk g2 26 #[.int .i64 k2, .int .i64 st2, .int .i64 nn2, .string key2, .slice Av2 v2.length cv2, .bool dd2], Item.blk g 26 #[.int .i64 3, .int .i64 m, .int .i64 K, .string key, .slice Av v.length cv, .bool dd], gV A' i c' hs]) w7 from by
                    rw [hw7]
                    exact T6.out.step (i := 0) rfl (Turn.cell (T6.out.get (i := 0) rfl) 1 (.int .i64 m)))
                  clear hw7 T6
                  go_upto_region 17 with fail
                  rw [← HW7.out]
                  clear HW7 y1 y4 f4
                  have x0 := Blk.cell (show Blk w7 gv _ #[.string vk, .int .i64 m, .slice A4 vv.length c4, .bool vd] from T7.out.get (i := 0) rfl) 0
                  have x1 := Blk.cell (show Blk w7 gv _ #[.string vk, .int .i64 m, .slice A4 vv.length c4, .bool vd] from T7.out.get (i := 0) rfl) 1
                  have x2 := Blk.cell (show Blk w7 gv _ #[.string vk, .int .i64 m, .slice A4 vv.length c4, .bool vd] from T7.out.get (i := 0) rfl) 2
                  have x3 := Blk.cell (show Blk w7 gv _ #[.string vk, .int .i64 m, .slice A4 vv.length c4, .bool vd] from T7.out.get (i := 0) rfl) 3
                  simp only [List.getElem?_toArray, List.getElem?_cons_zero, List.getElem?_cons_succ] at x0 x1 x2 x3
                  go_wp2_with (at_builtin; refine Stop.of ?_)
                  have T8 := Lib.hid (T7.out.go ((Below.refl w7.heap.size w7).alloc (Nat.le_refl _) (.cells #[.string vk, .int .i64 m, .slice A4 vv.length c4, .bool vd] 88)))
                  refine ⟨wpList_append_any _ rfl rfl 0 Try.underlying42 info_ver rfl (by decide) (by decide) rfl (show World.ownsRow _ 0 88 4 (.slice A' i c') i (hvCells hs) from Item.all_get (T8.out.get (i := 4) rfl) (List.mem_cons_self ..)) rfl (fresh_src (Blk.new w7 88 #[.string vk, .int .i64 m, .slice A4 vv.length c4, .bool vd]) Try.underlying42 rfl (by decide) rfl) (by omega) (Nat.zero_le _) ?_⟩
                  intro v' w8 ho hg hf
                  obtain ⟨A8, c8, rfl, _, _⟩ := own_slice ho
                  have T9 := Lib.hid (show Turn (Item.all []) w (Item.all [Item.blk g 26 #[.int .i64 3, .int .i64 m, .int .i64 K, .string key, .slice Av v.length cv, .bool dd], gV A8 (i + 1) c8 (hs ++ [⟨⟨vk, m, vv, vd⟩, A4, c4⟩])]) w8 from by
                    have t := T8.out.step (i := 4) rfl (gV_app (t := ⟨⟨vk, m, vv, vd⟩, A4, c4⟩) (T8.out.get (i := 4) rfl) ho hg hf)
                    have t2 := gV_joinL (t := ⟨⟨vk, m, vv, vd⟩, A4, c4⟩) (t.by_ 5 rfl [4, 1, 3, 0, 2] (by decide))
                    exact (t2.by_ 4 rfl [1, 0, 2, 3] (by decide)).sub (List.Sublist.cons_cons _ (List.Sublist.cons_cons _ (List.nil_sublist _))))
                  have HRR := Lib.hid (show RcIn w l m g (⟨3, m, K, key, v, dd⟩ : En) Av cv (i + 1) c8 A8 w8 from ⟨_, by
                    rw [List.map_append, HGD.out.1, List.take_succ_eq_append_getElem hil, List.map_append, ← HX2.out]
                    show _ ++ [_] = _ ++ [wOf m _]
                    unfold wOf
                    rw [← HVV.out], HG1.out, T9.out⟩)
                  clear ho hg hf T7 T8 T9 x0 x1 x2 x3
                  go_wp2
                  exact ⟨⟨i + 1, c8, A8, by go_num, rfl, hii, HRR⟩, by simp [intOf]; omega⟩
                | false =>
                  have HNO := Lib.hid (HGN.out (fun h => by have := h.2.2; rw [HUE.out, hB] at this; cases this))
                  refine wp_region_held_drew (S := fun w' => w'.cell? ⟨g2, 0, none⟩ = some (.int .i64 k2) ∧ w'.cell? ⟨g2, 1, none⟩ = some (.int .i64 st2) ∧ w'.cell? ⟨g2, 2, none⟩ = some (.int .i64 nn2) ∧ w'.cell? ⟨g2, 3, none⟩ = some (.string key2) ∧ w'.cell? ⟨g2, 4, none⟩ = some (.slice Av2 v2.length cv2) ∧ w'.cell? ⟨g2, 5, none⟩ = some (.bool dd2) ∧ w'.cell? ⟨bb, off + J * 6 + 3, none⟩ = some (.string lk)) (by kernel_rfl) ⟨q0, q1, q2, q3, q4, q5, r3⟩ (fun hHeld => ?_)
                  refine wpAnyH_take (i := 0) (v := ?_) rfl (by kernel_rfl) (by kernel_rfl) (by kernel_rfl) (fun _ _ _ h => h) (Or.inl ⟨by rfl, ?_⟩) (by assumption) ?_
                  rotate_left 1
                  · (intro w hSw; (try dsimp only at hSw); go_simp; (try with_reducible rfl))
                  simp only [Act.put, List.getElem_toArray, List.getElem_cons_zero, List.getElem_cons_succ, List.setIfInBounds_toArray, List.set_cons_zero, List.set_cons_succ]
                  refine wpAnyH_ready (rs := [1]) (by kernel_rfl) (by simp) ?_
                  refine AllReadyH.cons rfl (fun K' hK' => ?_) AllReadyH.nil
                  try simp only [List.getElem_toArray, List.getElem_cons_zero, List.getElem_cons_succ]
                  try go_simp
                  (go_at_call 70; refine (HCK2.out _).mono ?_; rintro e w6 ⟨rfl, hb⟩; have T6 := Lib.hid (T5.out.go ((Below.refl w5.heap.size w5).drew.trans hb)); have z0 := (hb.cell (p := ⟨g2, 0, none⟩) hgl).trans q0; have z1 := (hb.cell (p := ⟨g2, 1, none⟩) hgl).trans q1; have z2 := (hb.cell (p := ⟨g2, 2, none⟩) hgl).trans q2; have z3 := (hb.cell (p := ⟨g2, 3, none⟩) hgl).trans q3; have z4 := (hb.cell (p := ⟨g2, 4, none⟩) hgl).trans q4; have z5 := (hb.cell (p := ⟨g2, 5, none⟩) hgl).trans q5; have z6 := (hb.cell (p := ⟨bb, off + J * 6 + 3, none⟩) hob).trans r3; clear hb)
                  refine hK'.out _ _ ⟨z0, z1, z2, z3, z4, z5, z6⟩ (fun hHeld => ?_)
                  clear hK' K'
                  try simp only [Act.put, List.getElem_toArray, List.getElem_cons_zero, List.getElem_cons_succ, List.setIfInBounds_toArray, List.set_cons_zero, List.set_cons_succ]
                  refine wpAnyH_take (i := 2) (v := ?_) rfl (by kernel_rfl) (by kernel_rfl) (by kernel_rfl) (fun _ _ _ h => h) (Or.inl ⟨by rfl, ?_⟩) (by assumption) ?_
                  rotate_left 1
                  · (intro w hSw; (try dsimp only at hSw); go_simp; (try with_reducible rfl))
                  simp only [Act.put, List.getElem_toArray, List.getElem_cons_zero, List.getElem_cons_succ, List.setIfInBounds_toArray, List.set_cons_zero, List.set_cons_succ]
                  refine wpAnyH_take (i := 3) (v := ?_) rfl (by kernel_rfl) (by kernel_rfl) (by kernel_rfl) (fun _ _ _ h => h) (Or.inl ⟨by rfl, ?_⟩) (by assumption) ?_
                  rotate_left 1
                  · (intro w hSw; (try dsimp only at hSw); go_simp; (try with_reducible rfl))
                  simp only [Act.put, List.getElem_toArray, List.getElem_cons_zero, List.getElem_cons_succ, List.setIfInBounds_toArray, List.set_cons_zero, List.set_cons_succ]
                  refine wpAnyH_take (i := 4) (v := ?_) rfl (by kernel_rfl) (by kernel_rfl) (by kernel_rfl) (fun _ _ _ h => h) (Or.inl ⟨by rfl, ?_⟩) (by assumption) ?_
                  rotate_left 1
                  · (intro w hSw; (try dsimp only at hSw); go_simp; (try with_reducible rfl))
                  simp only [Act.put, List.getElem_toArray, List.getElem_cons_zero, List.getElem_cons_succ, List.setIfInBounds_toArray, List.set_cons_zero, List.set_cons_succ]
                  refine wpAnyH_take (i := 5) (v := ?_) rfl (by kernel_rfl) (by kernel_rfl) (by kernel_rfl) (fun _ _ _ h => h) (Or.inl ⟨by rfl, ?_⟩) (by assumption) ?_
                  rotate_left 1
                  · (intro w hSw; (try dsimp only at hSw); go_simp; (try with_reducible rfl))
                  simp only [Act.put, List.getElem_toArray, List.getElem_cons_zero, List.getElem_cons_succ, List.setIfInBounds_toArray, List.set_cons_zero, List.set_cons_succ]
                  refine wpAnyH_take (i := 6) (v := ?_) rfl (by kernel_rfl) (by kernel_rfl) (by kernel_rfl) (fun _ _ _ h => h) (Or.inl ⟨by rfl, ?_⟩) (by assumption) ?_
                  rotate_left 1
                  · (intro w hSw; (try dsimp only at hSw); go_simp; (try with_reducible rfl))
                  simp only [Act.put, List.getElem_toArray, List.getElem_cons_zero, List.getElem_cons_succ, List.setIfInBounds_toArray, List.set_cons_zero, List.set_cons_succ]
                  refine wpAnyH_take (i := 7) (v := ?_) rfl (by kernel_rfl) (by kernel_rfl) (by kernel_rfl) (fun _ _ _ h => h) (Or.inl ⟨by rfl, ?_⟩) (by assumption) ?_
                  rotate_left 1
                  · (intro w hSw; (try dsimp only at hSw); go_simp; (try with_reducible rfl))
                  simp only [Act.put, List.getElem_toArray, List.getElem_cons_zero, List.getElem_cons_succ, List.setIfInBounds_toArray, List.set_cons_zero, List.set_cons_succ]
                  refine wpAnyH_take (i := 8) (v := ?_) rfl (by kernel_rfl) (by kernel_rfl) (by kernel_rfl) (fun _ _ _ h => h) (Or.inl ⟨by rfl, ?_⟩) (by assumption) ?_
                  rotate_left 1
                  · (intro w hSw; (try dsimp only at hSw); go_simp; (try with_reducible rfl))
                  simp only [Act.put, List.getElem_toArray, List.getElem_cons_zero, List.getElem_cons_succ, List.setIfInBounds_toArray, List.set_cons_zero, List.set_cons_succ]
                  refine wpAnyH_take (i := 9) (v := ?_) rfl (by kernel_rfl) (by kernel_rfl) (by kernel_rfl) (fun _ _ _ h => h) (Or.inl ⟨by rfl, ?_⟩) (by assumption) ?_
                  rotate_left 1
                  · (intro w hSw; (try dsimp only at hSw); go_simp; (try with_reducible rfl))
                  simp only [Act.put, List.getElem_toArray, List.getElem_cons_zero, List.getElem_cons_succ, List.setIfInBounds_toArray, List.set_cons_zero, List.set_cons_succ]
                  refine wpAnyH_take (i := 10) (v := ?_) rfl (by kernel_rfl) (by kernel_rfl) (by kernel_rfl) (fun _ _ _ h => h) (Or.inl ⟨by rfl, ?_⟩) (by assumption) ?_
                  rotate_left 1
                  · (intro w hSw; (try dsimp only at hSw); go_simp; (try with_reducible rfl))
                  simp only [Act.put, List.getElem_toArray, List.getElem_cons_zero, List.getElem_cons_succ, List.setIfInBounds_toArray, List.set_cons_zero, List.set_cons_succ]
                  refine wpAnyH_take (i := 11) (v := ?_) rfl (by kernel_rfl) (by kernel_rfl) (by kernel_rfl) (fun _ _ _ h => h) (Or.inl ⟨by rfl, ?_⟩) (by assumption) ?_
                  rotate_left 1
                  · (intro w hSw; (try dsimp only at hSw); go_simp; (try with_reducible rfl))
                  simp only [Act.put, List.getElem_toArray, List.getElem_cons_zero, List.getElem_cons_succ, List.setIfInBounds_toArray, List.set_cons_zero, List.set_cons_succ]
                  refine wpAnyH_take (i := 12) (v := ?_) rfl (by kernel_rfl) (by kernel_rfl) (by kernel_rfl) (fun _ _ _ h => h) (Or.inl ⟨by rfl, ?_⟩) (by assumption) ?_
                  rotate_left 1
                  · (intro w hSw; (try dsimp only at hSw); go_simp; (try with_reducible rfl))
                  simp only [Act.put, List.getElem_toArray, List.getElem_cons_zero, List.getElem_cons_succ, List.setIfInBounds_toArray, List.set_cons_zero, List.set_cons_succ]
                  refine wpAnyH_take (i := 13) (v := ?_) rfl (by kernel_rfl) (by kernel_rfl) (by kernel_rfl) (fun _ _ _ h => h) (Or.inl ⟨by rfl, ?_⟩) (by assumption) ?_
                  rotate_left 1
                  · (intro w hSw; (try dsimp only at hSw); go_simp; (try with_reducible rfl))
                  simp only [Act.put, List.getElem_toArray, List.getElem_cons_zero, List.getElem_cons_succ, List.setIfInBounds_toArray, List.set_cons_zero, List.set_cons_succ]
                  refine wpAnyH_take (i := 14) (v := ?_) rfl (by kernel_rfl) (by kernel_rfl) (by kernel_rfl) (fun _ _ _ h => h) (Or.inl ⟨by rfl, ?_⟩) (by assumption) ?_
                  rotate_left 1
                  · (intro w hSw; (try dsimp only at hSw); go_simp; (try with_reducible rfl))
                  simp only [Act.put, List.getElem_toArray, List.getElem_cons_zero, List.getElem_cons_succ, List.setIfInBounds_toArray, List.set_cons_zero, List.set_cons_succ]
                  refine wpAnyH_take (i := 15) (v := ?_) rfl (by kernel_rfl) (by kernel_rfl) (by kernel_rfl) (fun _ _ _ h => h) (Or.inl ⟨by rfl, ?_⟩) (by assumption) ?_
                  rotate_left 1
                  · (intro w hSw; (try dsimp only at hSw); go_simp; (try with_reducible rfl))
                  simp only [Act.put, List.getElem_toArray, List.getElem_cons_zero, List.getElem_cons_succ, List.setIfInBounds_toArray, List.set_cons_zero, List.set_cons_succ]
                  refine wpAnyH_take (i := 16) (v := ?_) rfl (by kernel_rfl) (by kernel_rfl) (by kernel_rfl) (fun _ _ _ h => h) (Or.inl ⟨by rfl, ?_⟩) (by assumption) ?_
                  rotate_left 1
                  · (intro w hSw; (try dsimp only at hSw); go_simp; (try with_reducible rfl))
                  simp only [Act.put, List.getElem_toArray, List.getElem_cons_zero, List.getElem_cons_succ, List.setIfInBounds_toArray, List.set_cons_zero, List.set_cons_succ]
                  refine wpAnyH_take (i := 17) (v := ?_) rfl (by kernel_rfl) (by kernel_rfl) (by kernel_rfl) (fun _ _ _ h => h) (Or.inl ⟨by rfl, ?_⟩) (by assumption) ?_
                  rotate_left 1
                  · (intro w hSw; (try dsimp only at hSw); go_simp; (try with_reducible rfl))
                  simp only [Act.put, List.getElem_toArray, List.getElem_cons_zero, List.getElem_cons_succ, List.setIfInBounds_toArray, List.set_cons_zero, List.set_cons_succ]
                  refine wpAnyH_take (i := 18) (v := ?_) rfl (by kernel_rfl) (by kernel_rfl) (by kernel_rfl) (fun _ _ _ h => h) (Or.inl ⟨by rfl, ?_⟩) (by assumption) ?_
                  rotate_left 1
                  · (intro w hSw; (try dsimp only at hSw); go_simp; (try with_reducible rfl))
                  simp only [Act.put, List.getElem_toArray, List.getElem_cons_zero, List.getElem_cons_succ, List.setIfInBounds_toArray, List.set_cons_zero, List.set_cons_succ]
                  refine wpAnyH_take (i := 19) (v := ?_) rfl (by kernel_rfl) (by kernel_rfl) (by kernel_rfl) (fun _ _ _ h => h) (Or.inl ⟨by rfl, ?_⟩) (by assumption) ?_
                  rotate_left 1
                  · (intro w hSw; (try dsimp only at hSw); go_simp; (try with_reducible rfl))
                  simp only [Act.put, List.getElem_toArray, List.getElem_cons_zero, List.getElem_cons_succ, List.setIfInBounds_toArray, List.set_cons_zero, List.set_cons_succ]
                  refine wpAnyH_take (i := 20) (v := ?_) rfl (by kernel_rfl) (by kernel_rfl) (by kernel_rfl) (fun _ _ _ h => h) (Or.inl ⟨by rfl, ?_⟩) (by assumption) ?_
                  rotate_left 1
                  · (intro w hSw; (try dsimp only at hSw); go_simp; (try with_reducible rfl))
                  simp only [Act.put, List.getElem_toArray, List.getElem_cons_zero, List.getElem_cons_succ, List.setIfInBounds_toArray, List.set_cons_zero, List.set_cons_succ]
                  refine wpAnyH_take (i := 21) (v := ?_) rfl (by kernel_rfl) (by kernel_rfl) (by kernel_rfl) (fun _ _ _ h => h) (Or.inl ⟨by rfl, ?_⟩) (by assumption) ?_
                  rotate_left 1
                  · (intro w hSw; (try dsimp only at hSw); go_simp; (try with_reducible rfl))
                  simp only [Act.put, List.getElem_toArray, List.getElem_cons_zero, List.getElem_cons_succ, List.setIfInBounds_toArray, List.set_cons_zero, List.set_cons_succ]
                  refine wpAnyH_take (i := 22) (v := ?_) rfl (by kernel_rfl) (by kernel_rfl) (by kernel_rfl) (fun _ _ _ h => h) (Or.inl ⟨by rfl, ?_⟩) (by assumption) ?_
                  rotate_left 1
                  · (intro w hSw; (try dsimp only at hSw); go_simp; (try with_reducible rfl))
                  simp only [Act.put, List.getElem_toArray, List.getElem_cons_zero, List.getElem_cons_succ, List.setIfInBounds_toArray, List.set_cons_zero, List.set_cons_succ]
                  refine wpAnyH_take (i := 23) (v := ?_) rfl (by kernel_rfl) (by kernel_rfl) (by kernel_rfl) (fun _ _ _ h => h) (Or.inl ⟨by rfl, ?_⟩) (by assumption) ?_
                  rotate_left 1
                  · (intro w hSw; (try dsimp only at hSw); go_simp; (try with_reducible rfl))
                  simp only [Act.put, List.getElem_toArray, List.getElem_cons_zero, List.getElem_cons_succ, List.setIfInBounds_toArray, List.set_cons_zero, List.set_cons_succ]
                  refine wpAnyH_take (i := 24) (v := ?_) rfl (by kernel_rfl) (by kernel_rfl) (by kernel_rfl) (fun _ _ _ h => h) (Or.inl ⟨by rfl, ?_⟩) (by assumption) ?_
                  rotate_left 1
                  · (intro w hSw; (try dsimp only at hSw); go_simp; (try with_reducible rfl))
                  simp only [Act.put, List.getElem_toArray, List.getElem_cons_zero, List.getElem_cons_succ, List.setIfInBounds_toArray, List.set_cons_zero, List.set_cons_succ]
                  refine wpAnyH_take (i := 25) (v := ?_) rfl (by kernel_rfl) (by kernel_rfl) (by kernel_rfl) (fun _ _ _ h => h) (Or.inl ⟨by rfl, ?_⟩) (by assumption) ?_
                  rotate_left 1
                  · (intro w hSw; (try dsimp only at hSw); go_simp; (try with_reducible rfl))
                  simp only [Act.put, List.getElem_toArray, List.getElem_cons_zero, List.getElem_cons_succ, List.setIfInBounds_toArray, List.set_cons_zero, List.set_cons_succ]
                  refine wpAnyH_take (i := 26) (v := ?_) rfl (by kernel_rfl) (by kernel_rfl) (by kernel_rfl) (fun _ _ _ h => h) (Or.inl ⟨by rfl, ?_⟩) (by assumption) ?_
                  rotate_left 1
                  · (intro w hSw; (try dsimp only at hSw); go_simp; (try with_reducible rfl))
                  simp only [Act.put, List.getElem_toArray, List.getElem_cons_zero, List.getElem_cons_succ, List.setIfInBounds_toArray, List.set_cons_zero, List.set_cons_succ]
                  refine wpAnyH_done (by kernel_rfl) ?_ _
                  have HRE := Lib.hid (show RcPost l m w (.returned (.tuple #[.slice none 0 0, .int .i64 0])) w6 from .inl ⟨HNO.out, rfl, T6.out.free⟩)
                  clear T5 T6 q0 q1 q2 q3 q4 q5 z0 z1 z2 z3 z4 z5
                  go_wp2
                  go_ret2
                  exact HRE.out
          · obtain rfl : i = K := by omega
            obtain ⟨hs, hhs, hgd, hT⟩ := hH.out
            have HRE := Lib.hid (show RcPost l m w (.returned (.tuple #[.slice A' i c', .int .i64 (i + 1 : Nat)])) wr from .inr ⟨l.take i, A', i, c', hs, comG_yes hKl HX.out hK1 rfl hgd HEA.out, by rw [List.length_take]; omega, hhs, rfl, hT.sub (List.sublist_cons_self _ _)⟩)
            clear hhs hgd hT hH
            go_wp2
            go_ret2
            exact HRE.out
      · have e3 : decide (k = 3) = false := decide_eq_false h3
        have e3n : (k != 3) = true := bne_iff_ne.2 h3
        have HRE := Lib.hid (show (∀ i, 1 ≤ i → i < K + 1 → ∀ hl : i < l.length, l[i].kind ≠ 3) ∧ Below w.heap.size w w1 from ⟨fun i h1 h2 hl => by
          rcases Nat.lt_or_ge i K with h | h
          · exact HH.out i h1 h hl
          · obtain rfl : i = K := by omega
            rw [← HX.out]
            exact h3, T1.out.free⟩)
        have hKi : K + 1 ≤ M + 1 := by omega
        clear h3 T1 HH
        go_wp2
        exact ⟨⟨K + 1, by go_num, by omega, hKi, HRE⟩, by simp [intOf]; omega⟩
    · have HRE := Lib.hid (show RcPost l m w (.returned (.tuple #[.slice none 0 0, .int .i64 0])) wr from .inl ⟨comG_no3 (fun i h1 hl => hH.out.1 i h1 (by have := HM.out; omega) hl), rfl, hH.out.2⟩)
      clear hH
      go_wp2
      go_ret2
      exact HRE.out
end Go.Proofs.Ytmnpchncmbnddaa
