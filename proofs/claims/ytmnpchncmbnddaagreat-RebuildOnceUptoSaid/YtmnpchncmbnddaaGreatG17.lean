/- Contracts and plain laws that this claim leans on, laid together: Bc, Next, Ckp. -/
import Derived.Test.YtmnpchncmbnddaaGreatG13
import Derived.Test.YtmnpchncmbnddaaGreatG16
set_option linter.all false
set_option linter.unusedVariables false
set_option linter.unusedSimpArgs false
set_option linter.unnecessarySimpa false
/- Rebuild: a commit group read, by contract. -/
namespace Go.Proofs.YtmnpchncmbnddaaGreat
open Go.RowKit

/-- The version of a write, at a stamp. -/
def wOf (n : Int) (e : En) : Vn := { e.version.1 with stamp := n }
/-- Does the next key not rise. -/
def notUp (prev : List En) (e : En) : Bool := match prev.getLast? with | some p => leB e.key p.key | none => false
/-- The writes of the commit group at the head, behind those read; none: no group stands there. -/
noncomputable def comG (n : Int) : List En → List En → Option (List En)
  | _, [] => none
  | prev, e :: r => if e.chk ≠ 0 then none else if e.kind = 1 ∨ e.kind = 2 then (if notUp prev e = true then none else comG n (prev ++ [e]) r) else if e.kind = 3 then (if prev = [] ∨ e.stamp ≠ n ∨ e.count ≠ prev.length then none else some prev) else none
section
variable {n : Int} {l : List En} {K : Nat} {x : En}
theorem comG_bad (h : K < l.length) (hx : x = l[K]) (hc : x.chk ≠ 0) : comG n (l.take K) (l.drop K) = none := by
  subst hx
  rw [List.drop_eq_getElem_cons h]
  exact if_pos hc
theorem comG_down (h : K < l.length) (hx : x = l[K]) (hk : x.kind = 1 ∨ x.kind = 2) (hu : notUp (l.take K) x = true) : comG n (l.take K) (l.drop K) = none := by
  subst hx
  rw [List.drop_eq_getElem_cons h]
  unfold comG
  by_cases hc : l[K].chk ≠ 0
  · rw [if_pos hc]
  · rw [if_neg hc, if_pos hk, if_pos hu]
theorem comG_up (h : K < l.length) (hx : x = l[K]) (hc : x.chk = 0) (hk : x.kind = 1 ∨ x.kind = 2) (hu : notUp (l.take K) x = false) : comG n (l.take K) (l.drop K) = comG n (l.take (K + 1)) (l.drop (K + 1)) := by
  subst hx
  rw [List.drop_eq_getElem_cons h, List.take_succ_eq_append_getElem h]
  conv => lhs; unfold comG
  rw [if_neg (by rw [hc]; simp), if_pos hk, if_neg (by rw [hu]; simp)]
theorem comG_end (h : K < l.length) (hx : x = l[K]) (hc : x.chk = 0) (hk : x.kind = 3) : comG n (l.take K) (l.drop K) = if K = 0 ∨ x.stamp ≠ n ∨ x.count ≠ K then none else some (l.take K) := by
  subst hx
  rw [List.drop_eq_getElem_cons h]
  unfold comG
  rw [if_neg (by rw [hc]; simp), if_neg (by rw [hk]; decide), if_pos hk]
  have e1 : (l.take K).length = K := by rw [List.length_take]; omega
  have e2 : l.take K = [] ↔ K = 0 := by rw [← List.length_eq_zero_iff, e1]
  rw [e1]
  by_cases h0 : K = 0
  · rw [if_pos (.inl (e2.2 h0)), if_pos (.inl h0)]
  · by_cases h1 : l[K].stamp ≠ n ∨ l[K].count ≠ K
    · rw [if_pos (.inr h1), if_pos (.inr h1)]
    · rw [if_neg (by rintro (h | h); exact h0 (e2.1 h); exact h1 h), if_neg (by rintro (h | h); exact h0 h; exact h1 h)]
theorem comG_other (h : K < l.length) (hx : x = l[K]) (h1 : x.kind ≠ 1) (h2 : x.kind ≠ 2) (h3 : x.kind ≠ 3) : comG n (l.take K) (l.drop K) = none := by
  subst hx
  rw [List.drop_eq_getElem_cons h]
  unfold comG
  by_cases hc : l[K].chk ≠ 0
  · rw [if_pos hc]
  · rw [if_neg hc, if_neg (by rintro (h | h); exact h1 h; exact h2 h), if_neg h3]
theorem notUp_0 : notUp (l.take 0) x = false := rfl
theorem notUp_J {J : Nat} (h : J < l.length) {p : ByteArray} (hp : p = (l[J]).key) : notUp (l.take (J + 1)) x = leB x.key p := by
  unfold notUp
  rw [List.take_succ_eq_append_getElem h, List.getLast?_concat, hp]
end
/-- Versions applied one behind the other. -/
def tryL (S : PS) (l : List Vn) : PS := l.foldl tryP S
/-- A building of the program: the store, the stamp, the count. -/
def bldCells (gs : Nat) (now count : Int) : Array Value := #[.pointer (some ⟨gs, 0, none⟩), .int .i64 now, .int .i64 count]
def Item.bld (gb gs : Nat) (now count : Int) : Item := Item.blk gb 194 (bldCells gs now count)
theorem Turn.add3 {a x y z : Item} {w0 w w' : World} (T : Turn a w0 (Item.all [x, y, z]) w) {v : Value} {l : List UInt8} (hb : Below w.heap.size w w') (ho : BOwns w' w.heap.size v l) : Turn a w0 (Item.all [x, y, z, Item.row v l]) w' := by
  have := T.more (y := Item.row v l) hb (owns_less ho (Nat.zero_le _)) (fun k hk => (ho.lt hk).1)
  exact this.by_ 4 rfl [1, 2, 3, 0] (by decide)
def BcPost (w0 : World) (s : St) (gb : Nat) (now count : Int) (l : List En) (N : Nat) (e : Ending) (w' : World) : Prop :=
  comG (IntKind.i64.wrap (now + 1)) [] l = none ∧ e = .returned (.int .i64 0) ∧ Turn (Item.all []) w0 (Item.all [s.item, Item.bld gb s.gs now count]) w' ∨
  ∃ prev, comG (IntKind.i64.wrap (now + 1)) [] l = some prev ∧ e = .returned (.int .i64 (prev.length + 1 : Nat)) ∧ ∃ s' : St, s'.gs = s.gs ∧ s'.ok (N + prev.length) ∧ s'.view = tryL s.view (prev.map (wOf (IntKind.i64.wrap (now + 1)))) ∧ Turn (Item.all []) w0 (Item.all [s'.item, Item.bld gb s.gs (IntKind.i64.wrap (now + 1)) count]) w'
theorem wOf_size {n : Int} {e : En} {X Y : Nat} (h : e.key.size ≤ X ∧ e.value.length ≤ Y) : (wOf n e).key.size ≤ X ∧ (wOf n e).value.length ≤ Y := by
  unfold wOf En.version
  split
  · exact h
  · split
    · exact ⟨h.1, Nat.zero_le _⟩
    · split
      · exact h
      · exact ⟨Nat.zero_le _, Nat.zero_le _⟩
theorem tryL_snoc {S : PS} {l : List Vn} {v : Vn} : tryL S (l ++ [v]) = tryP (tryL S l) v := by unfold tryL; rw [List.foldl_append]; rfl
theorem gV_app {w w' : World} {A A' : Option Addr} {n c c' : Nat} {hs : List Hv} {t : Hv} (h : (gV A n c hs).P w)
    (ho : w'.ownsRow 0 51 4 (.slice A' (n + 1) c') (n + 1) (hvCells hs ++ (t.x.cells t.A t.c).toList)) (hg : w.grownBy w' (Value.slice A n c).ownBlock) (hf : (Value.slice A' (n + 1) c').ownBlock = (Value.slice A n c).ownBlock ∨ (Value.slice A' (n + 1) c').ownBlock = some w.heap.size) :
    Turn (gV A n c hs) w (Item.all (Item.rowT 51 4 (.slice A' (n + 1) c') (n + 1) (hvCells (hs ++ [t])) :: hvRows hs)) w' := by
  rw [hvCells_snoc]
  exact Turn.head h (Turn.rowT (v := .slice A n c) (n := n) (xs := hvCells hs) ho hg hf)
theorem gV_join {a x y : Item} {w0 w : World} {A : Option Addr} {n c : Nat} {hs : List Hv} {t : Hv} (T : Turn a w0 (Item.all [x, y, Item.all (Item.rowT 51 4 (.slice A n c) n (hvCells (hs ++ [t])) :: hvRows hs), Item.row (.slice t.A t.x.value.length t.c) t.x.value]) w) : Turn a w0 (Item.all [x, y, gV A n c (hs ++ [t])]) w := by
  have t1 := (T.by_ 4 rfl [2, 3, 0, 1] (by decide)).sameR same_flat
  have t2 : Turn a w0 (Item.all ((Item.rowT 51 4 (.slice A n c) n (hvCells (hs ++ [t])) :: hvRows (hs ++ [t])) ++ [x, y])) w := by
    rw [hvRows_snoc]
    have t1' : Turn a w0 (Item.all ((Item.rowT 51 4 (.slice A n c) n (hvCells (hs ++ [t])) :: hvRows hs) ++ [Item.row (.slice t.A t.x.value.length t.c) t.x.value, x, y])) w := t1
    rw [List.cons_append] at t1' ⊢
    rw [List.append_assoc]
    exact t1'
  exact (t2.sameR (Item.Same.symm same_flat)).by_ 3 rfl [1, 2, 0] (by decide)
set_option maxRecDepth 100000 in
set_option maxHeartbeats 12800000 in
theorem bcommit_any {w0 w : World} {s : St} {gb : Nat} {now count : Int} {N : Nat} (T : Turn (Item.all []) w0 (Item.all [s.item, Item.bld gb s.gs now count]) w) (hok : s.ok N) {A : Option Addr} {c : Nat} {l : List En} (hS : kEn.Sl w0 w0.heap.size A l) (hl : l.length ≤ 16777216) (hN : N + l.length ≤ 1000000000) (hks : ∀ e ∈ l, e.key.size ≤ 1099511627776 ∧ e.value.length ≤ 1099511627776) :
    Calls Tryz.prog 106 #[.pointer (some ⟨gb, 0, none⟩), .slice A l.length c] w (BcPost w0 s gb now count l N) := by
  have HS := Lib.hid hS
  have HKS := Lib.hid hks
  have HOK := Lib.hid hok
  have HN := Lib.hid hN
  obtain ⟨gs, hgs⟩ : ∃ g, g = s.gs := ⟨_, rfl⟩
  have HGS := Lib.hid hgs
  obtain ⟨n1, hn1⟩ : ∃ n, n = IntKind.i64.wrap (now + 1) := ⟨_, rfl⟩
  have HN1 := Lib.hid hn1
  have hw1 : IntKind.i64.wrap (now + 1) = n1 := hn1.symm
  obtain ⟨M, hM⟩ : ∃ M, M = l.length := ⟨_, rfl⟩
  have HM := Lib.hid hM
  rw [← hM] at hl ⊢
  have T0 := Lib.hid (show ∃ hs : List Hv, hs.map Hv.x = (l.take 0).map (wOf n1) ∧ comG n1 [] l = comG n1 (l.take 0) (l.drop 0) ∧ Turn (Item.all []) w0 (Item.all [s.item, Item.bld gb gs now count, gV none 0 0 hs]) w from ⟨[], rfl, rfl, by
    have := T.more (y := gV none 0 0 []) (Below.refl _ _) (show (Item.all [Item.rowT 51 4 (.slice none 0 0) 0 []]).P w from ⟨fun i hi => by obtain rfl := List.mem_singleton.1 hi; exact World.ownsRow_nil _ _ _ _, List.pairwise_singleton _ _⟩) (fun k hk => by
      obtain ⟨i, hi, hk⟩ := hk
      rcases List.mem_cons.1 hi with rfl | hi
      · cases hk
      · cases hi)
    rw [hgs]
    exact this.by_ 3 rfl [1, 2, 0] (by decide)⟩)
  clear T hS hks hok hN hM hgs hn1
  go_enter Tryz.func106, Tryz.ntmps106
  go_wp2
  go_loopw [14, 5] (fun t u wr => ∃ (K c' : Nat) (A' : Option Addr), t = .int .i64 K ∧ u = .slice A' K c' ∧ K ≤ M ∧ Hid (∃ hs : List Hv, hs.map Hv.x = (l.take K).map (wOf n1) ∧ comG n1 [] l = comG n1 (l.take K) (l.drop K) ∧ Turn (Item.all []) w0 (Item.all [s.item, Item.bld gb gs now count, gV A' K c' hs]) wr)) (fun t _ _ => M - (intOf t).toNat)
  case atStart => exact ⟨0, 0, none, rfl, rfl, Nat.zero_le _, T0⟩
  case round =>
    clear T0
    obtain ⟨K, c', A', rfl, rfl, hK, hH⟩ := hrel
    by_cases hlt : (K : Int) < (M : Int)
    · have hKl : K < l.length := by have := HM.out; omega
      have hKi : K + 1 ≤ M := by omega
      obtain ⟨hs, hhs, hcom, hT⟩ := hH.out
      have hSr := Lib.hid (HS.out.below hT.free)
      have HT := Lib.hid hT
      have hwsz := hT.free.size
      obtain ⟨bb, off, Av, cv, hA, hbb, hints, s0, s1, s2, s3, s4, s5, hval⟩ := en_at hSr.out hKl
      subst hA
      obtain ⟨x, hx⟩ : ∃ x, x = l[K] := ⟨_, rfl⟩
      have hxm : x ∈ l := by rw [hx]; exact List.getElem_mem _
      have hxb := HKS.out x hxm
      rw [← hx] at s0 s1 s2 s3 s4 s5 hval hints
      have HCB := Lib.hid (comG_bad (n := n1) hKl hx)
      have HCD := Lib.hid (comG_down (n := n1) hKl hx)
      have HCU := Lib.hid (comG_up (n := n1) hKl hx)
      have HCE := Lib.hid (comG_end (n := n1) hKl hx)
      have HCO := Lib.hid (comG_other (n := n1) hKl hx)
      have HC := Lib.hid hcom
      have HHS := Lib.hid hhs
      have HX := Lib.hid hx
      obtain ⟨k, st, nn, key, v, dd⟩ := x
      simp only at s0 s1 s2 s3 s4 s5 hval hxb
      have BA := Lib.hid ((Below.refl wr.heap.size wr).alloc (Nat.le_refl _) (.cells #[.int .i64 k, .int .i64 st, .int .i64 nn, .string key, .slice Av v.length cv, .bool dd] 105))
      have KE := Lib.hid (Blk.new wr 105 #[.int .i64 k, .int .i64 st, .int .i64 nn, .string key, .slice Av v.length cv, .bool dd])
      have HVAL := Lib.hid (hval.more hwsz)
      have hbr : bb < wr.heap.size := Nat.lt_of_lt_of_le hbb hwsz
      have hxb1 := hxb.1
      have hxb2 := hxb.2
      clear hx hxm hxb hhs hcom hT hwsz hval hints hbb hH
      have HCK := Lib.hid (fun (W : World) => check_any (w := W) (A := Av) (c := cv) ⟨k, st, nn, key, v, dd⟩ (by simp only; omega) (by simp only; omega))
      obtain ⟨R, hR⟩ : ∃ R, R = En.chk ⟨k, st, nn, key, v, dd⟩ := ⟨_, rfl⟩
      rw [← hR] at HCK
      have HR := Lib.hid hR
      clear hR
      go_wp2_with fail
      refine (HCK.out _).mono ?_
      rintro e w2 ⟨rfl, hb2⟩
      have KE2 := Lib.hid (KE.out.below' hb2)
      have T2 := Lib.hid (HT.out.go (BA.out.trans (hb2.mono BA.out.size)))
      have B2 := Lib.hid (BA.out.trans (hb2.mono BA.out.size))
      clear hb2 HCK KE BA
      by_cases hr0 : R = 0
      · have HR0 := Lib.hid (HR.out.symm.trans hr0)
        subst hr0
        have q0 := KE2.out.cell 0
        have q1 := KE2.out.cell 1
        have q2 := KE2.out.cell 2
        have q3 := KE2.out.cell 3
        have q4 := KE2.out.cell 4
        have q5 := KE2.out.cell 5
        simp at q0 q1 q2 q3 q4 q5
        clear s0 s1 s2 s3 s4 s5
        by_cases h1 : k = 1
        · subst h1
          rcases Nat.eq_zero_or_pos K with h0 | h0
          · have HUP : Hid (notUp (l.take K) ⟨1, st, nn, key, v, dd⟩ = false) := Lib.hid (by rw [h0]; exact notUp_0)
            have d0 : decide (0 < (K : Int)) = false := decide_eq_false (by omega)
            have d0' : decide (0 < K) = false := decide_eq_false (by omega)
            clear h0
            go_upto_region 11 with fail
            go_quiet (fail)
            have T3 := Lib.hid (T2.out.go (below_drewN (Below.refl _ _) nq))
            have HVE := Lib.hid (version_any (w := w2.drewN nq) (A := Av) (c := cv) ⟨1, st, nn, key, v, dd⟩ (((HVAL.out.below B2.out).more B2.out.size).below (below_drewN (Below.refl _ _) nq)) (by simp only; omega))
            clear T2
            go_wp2_with fail
            refine HVE.out.mono ?_
            rintro e w3 ⟨A3, c3, rfl, ho3, hb3⟩
            obtain ⟨⟨vk, vs, vv, vd⟩, hV⟩ : ∃ V, V = (En.version ⟨1, st, nn, key, v, dd⟩).1 := ⟨_, rfl⟩
            obtain ⟨vb, hvb⟩ : ∃ V, V = (En.version ⟨1, st, nn, key, v, dd⟩).2 := ⟨_, rfl⟩
            rw [← hV] at ho3 ⊢
            rw [← hvb, show Vn.cells ⟨vk, vs, vv, vd⟩ A3 c3 = #[.string vk, .int .i64 vs, .slice A3 vv.length c3, .bool vd] from rfl]
            have HVV := Lib.hid hV
            have T4 := Lib.hid (T3.out.add3 hb3 ho3)
            have y1 : w3.cell? ⟨gb, 1, none⟩ = some (.int .i64 now) := Blk.cell (show Blk w3 gb _ (bldCells gs now count) from T4.out.get (i := 1) rfl) 1
            have hgb : gb < w3.heap.size := (show Blk w3 gb _ (bldCells gs now count) from T4.out.get (i := 1) rfl).lt
            clear hvb hV hb3 ho3 HVE q0 q1 q2 q3 q4 q5 T3
            go_wp2_with (at_builtin; refine Stop.of ?_)
            have T5 := Lib.hid (T4.out.go (((Below.refl w3.heap.size w3).alloc (Nat.le_refl _) (.cells #[.string vk, .int .i64 n1, .slice A3 vv.length c3, .bool vd] 51)).alloc (by simp) (.cells #[.string vk, .int .i64 n1, .slice A3 vv.length c3, .bool vd] 51)))
            have KB := Lib.hid (show Blk ((w3.alloc (.cells #[.string vk, .int .i64 n1, .slice A3 vv.length c3, .bool vd] 51)).alloc (.cells #[.string vk, .int .i64 n1, .slice A3 vv.length c3, .bool vd] 51)) (w3.heap.size + 1) 51 #[.string vk, .int .i64 n1, .slice A3 vv.length c3, .bool vd] from by
              have := Blk.new (w3.alloc (.cells #[.string vk, .int .i64 n1, .slice A3 vv.length c3, .bool vd] 51)) 51 #[.string vk, .int .i64 n1, .slice A3 vv.length c3, .bool vd]
              rwa [show (w3.alloc (.cells #[.string vk, .int .i64 n1, .slice A3 vv.length c3, .bool vd] 51)).heap.size = w3.heap.size + 1 from by simp] at this)
            refine ⟨wpList_append_any _ rfl rfl 0 Tryz.underlying23 info_ver rfl (by decide) (by decide) rfl (show World.ownsRow _ 0 51 4 (.slice A' K c') K (hvCells hs) from Item.all_get (T5.out.get (i := 2) rfl) (List.mem_cons_self ..)) rfl (fresh_src KB.out Tryz.underlying23 rfl (by decide) rfl) (by omega) (Nat.zero_le _) ?_⟩
            intro v' w4 ho hg hf
            obtain ⟨A2, c2, rfl, _, _⟩ := own_slice ho
            have T6 := Lib.hid (gV_join (t := ⟨⟨vk, n1, vv, vd⟩, A3, c3⟩) (T5.out.step (i := 2) rfl (gV_app (t := ⟨⟨vk, n1, vv, vd⟩, A3, c3⟩) (T5.out.get (i := 2) rfl) ho hg hf)))
            have HRR := Lib.hid (show ∃ hs : List Hv, hs.map Hv.x = (l.take (K + 1)).map (wOf n1) ∧ comG n1 [] l = comG n1 (l.take (K + 1)) (l.drop (K + 1)) ∧ Turn (Item.all []) w0 (Item.all [s.item, Item.bld gb gs now count, gV A2 (K + 1) c2 hs]) w4 from ⟨_, by
              rw [List.map_append, HHS.out, List.take_succ_eq_append_getElem hKl, List.map_append, ← HX.out]
              show _ ++ [_] = _ ++ [wOf n1 _]
              unfold wOf
              rw [← HVV.out], HC.out.trans (HCU.out HR0.out (by simp) HUP.out), T6.out⟩)
            clear ho hg hf T4 T5 T6 y1
            go_wp2
            exact ⟨⟨K + 1, c2, A2, by go_num, rfl, hKi, HRR⟩, by simp [intOf]; omega⟩
          · obtain ⟨J, hJ⟩ : ∃ J, K = J + 1 := ⟨K - 1, by omega⟩
            have hJN : J < l.length := by omega
            obtain ⟨bb', off', Av', cv', hA', hbb', z0, z1, z2, z3, t0, z4, z5, z6⟩ := en_at (HS.out.below T2.out.free) hJN
            injection hA' with hA'
            injection hA' with e1 e2
            subst e1; subst e2
            obtain ⟨pk, hpk⟩ : ∃ k, k = (l[J]).key := ⟨_, rfl⟩
            rw [← hpk] at t0
            have HUP : Hid (notUp (l.take K) ⟨1, st, nn, key, v, dd⟩ = leB key pk) := Lib.hid (by rw [hJ]; exact notUp_J hJN hpk)
            have hJ1 : (K : Int) - 1 = (J : Int) := by omega
            have hJn : J < M := by omega
            have d0 : decide (0 < (K : Int)) = true := decide_eq_true (by omega)
            have d0' : decide (0 < K) = true := decide_eq_true (by omega)
            clear hJ h0 hpk z0 z1 z2 z3 z4 z5 z6 hbb' hJN
            cases hle : leB key pk with
            | true =>
              have hle' : (Op.bytesLess key.toList pk.toList || key.toList == pk.toList) = true := hle
              have HNO := Lib.hid (show comG (IntKind.i64.wrap (now + 1)) [] l = none from by rw [← HN1.out, HC.out, HCD.out (by simp) (by rw [HUP.out]; exact hle)])
              clear hle
              go_upto_region 11 with fail
              go_quiet (fail)
              have HRE2 := Lib.hid (show BcPost w0 s gb now count l N (.returned (.int .i64 0)) (w2.drewN nq) from .inl ⟨HNO.out, rfl, by
                have := (T2.out.sub (M := [s.item, Item.bld gb gs now count]) (List.Sublist.cons_cons _ (List.Sublist.cons_cons _ (List.nil_sublist _)))).go (below_drewN (Below.refl _ _) nq)
                rwa [HGS.out] at this⟩)
              clear T2 B2 HT HVAL
              go_wp2
              go_ret
              exact HRE2.out
            | false =>
              have hle' : (Op.bytesLess key.toList pk.toList || key.toList == pk.toList) = false := hle
              rw [hle] at HUP
              clear hle
              go_upto_region 11 with fail
              go_quiet (fail)
              have T3 := Lib.hid (T2.out.go (below_drewN (Below.refl _ _) nq))
              have HVE := Lib.hid (version_any (w := w2.drewN nq) (A := Av) (c := cv) ⟨1, st, nn, key, v, dd⟩ (((HVAL.out.below B2.out).more B2.out.size).below (below_drewN (Below.refl _ _) nq)) (by simp only; omega))
              clear T2
              go_wp2_with fail
              refine HVE.out.mono ?_
              rintro e w3 ⟨A3, c3, rfl, ho3, hb3⟩
              obtain ⟨⟨vk, vs, vv, vd⟩, hV⟩ : ∃ V, V = (En.version ⟨1, st, nn, key, v, dd⟩).1 := ⟨_, rfl⟩
              obtain ⟨vb, hvb⟩ : ∃ V, V = (En.version ⟨1, st, nn, key, v, dd⟩).2 := ⟨_, rfl⟩
              rw [← hV] at ho3 ⊢
              rw [← hvb, show Vn.cells ⟨vk, vs, vv, vd⟩ A3 c3 = #[.string vk, .int .i64 vs, .slice A3 vv.length c3, .bool vd] from rfl]
              have HVV := Lib.hid hV
              have T4 := Lib.hid (T3.out.add3 hb3 ho3)
              have y1 : w3.cell? ⟨gb, 1, none⟩ = some (.int .i64 now) := Blk.cell (show Blk w3 gb _ (bldCells gs now count) from T4.out.get (i := 1) rfl) 1
              have hgb : gb < w3.heap.size := (show Blk w3 gb _ (bldCells gs now count) from T4.out.get (i := 1) rfl).lt
              clear hvb hV hb3 ho3 HVE q0 q1 q2 q3 q4 q5 T3
              go_wp2_with (at_builtin; refine Stop.of ?_)
              have T5 := Lib.hid (T4.out.go (((Below.refl w3.heap.size w3).alloc (Nat.le_refl _) (.cells #[.string vk, .int .i64 n1, .slice A3 vv.length c3, .bool vd] 51)).alloc (by simp) (.cells #[.string vk, .int .i64 n1, .slice A3 vv.length c3, .bool vd] 51)))
              have KB := Lib.hid (show Blk ((w3.alloc (.cells #[.string vk, .int .i64 n1, .slice A3 vv.length c3, .bool vd] 51)).alloc (.cells #[.string vk, .int .i64 n1, .slice A3 vv.length c3, .bool vd] 51)) (w3.heap.size + 1) 51 #[.string vk, .int .i64 n1, .slice A3 vv.length c3, .bool vd] from by
                have := Blk.new (w3.alloc (.cells #[.string vk, .int .i64 n1, .slice A3 vv.length c3, .bool vd] 51)) 51 #[.string vk, .int .i64 n1, .slice A3 vv.length c3, .bool vd]
                rwa [show (w3.alloc (.cells #[.string vk, .int .i64 n1, .slice A3 vv.length c3, .bool vd] 51)).heap.size = w3.heap.size + 1 from by simp] at this)
              refine ⟨wpList_append_any _ rfl rfl 0 Tryz.underlying23 info_ver rfl (by decide) (by decide) rfl (show World.ownsRow _ 0 51 4 (.slice A' K c') K (hvCells hs) from Item.all_get (T5.out.get (i := 2) rfl) (List.mem_cons_self ..)) rfl (fresh_src KB.out Tryz.underlying23 rfl (by decide) rfl) (by omega) (Nat.zero_le _) ?_⟩
              intro v' w4 ho hg hf
              obtain ⟨A2, c2, rfl, _, _⟩ := own_slice ho
              have T6 := Lib.hid (gV_join (t := ⟨⟨vk, n1, vv, vd⟩, A3, c3⟩) (T5.out.step (i := 2) rfl (gV_app (t := ⟨⟨vk, n1, vv, vd⟩, A3, c3⟩) (T5.out.get (i := 2) rfl) ho hg hf)))
              have HRR := Lib.hid (show ∃ hs : List Hv, hs.map Hv.x = (l.take (K + 1)).map (wOf n1) ∧ comG n1 [] l = comG n1 (l.take (K + 1)) (l.drop (K + 1)) ∧ Turn (Item.all []) w0 (Item.all [s.item, Item.bld gb gs now count, gV A2 (K + 1) c2 hs]) w4 from ⟨_, by
                rw [List.map_append, HHS.out, List.take_succ_eq_append_getElem hKl, List.map_append, ← HX.out]
                show _ ++ [_] = _ ++ [wOf n1 _]
                unfold wOf
                rw [← HVV.out], HC.out.trans (HCU.out HR0.out (by simp) HUP.out), T6.out⟩)
              clear ho hg hf T4 T5 T6 y1
              go_wp2
              exact ⟨⟨K + 1, c2, A2, by go_num, rfl, hKi, HRR⟩, by simp [intOf]; omega⟩
        · by_cases h2 : k = 2
          · subst h2
            rcases Nat.eq_zero_or_pos K with h0 | h0
            · have HUP : Hid (notUp (l.take K) ⟨2, st, nn, key, v, dd⟩ = false) := Lib.hid (by rw [h0]; exact notUp_0)
              have d0 : decide (0 < (K : Int)) = false := decide_eq_false (by omega)
              have d0' : decide (0 < K) = false := decide_eq_false (by omega)
              clear h0
              go_upto_region 11 with fail
              go_quiet (fail)
              have T3 := Lib.hid (T2.out.go (below_drewN (Below.refl _ _) nq))
              have HVE := Lib.hid (version_any (w := w2.drewN nq) (A := Av) (c := cv) ⟨2, st, nn, key, v, dd⟩ (((HVAL.out.below B2.out).more B2.out.size).below (below_drewN (Below.refl _ _) nq)) (by simp only; omega))
              clear T2
              go_wp2_with fail
              refine HVE.out.mono ?_
              rintro e w3 ⟨A3, c3, rfl, ho3, hb3⟩
              obtain ⟨⟨vk, vs, vv, vd⟩, hV⟩ : ∃ V, V = (En.version ⟨2, st, nn, key, v, dd⟩).1 := ⟨_, rfl⟩
              obtain ⟨vb, hvb⟩ : ∃ V, V = (En.version ⟨2, st, nn, key, v, dd⟩).2 := ⟨_, rfl⟩
              rw [← hV] at ho3 ⊢
              rw [← hvb, show Vn.cells ⟨vk, vs, vv, vd⟩ A3 c3 = #[.string vk, .int .i64 vs, .slice A3 vv.length c3, .bool vd] from rfl]
              have HVV := Lib.hid hV
              have T4 := Lib.hid (T3.out.add3 hb3 ho3)
              have y1 : w3.cell? ⟨gb, 1, none⟩ = some (.int .i64 now) := Blk.cell (show Blk w3 gb _ (bldCells gs now count) from T4.out.get (i := 1) rfl) 1
              have hgb : gb < w3.heap.size := (show Blk w3 gb _ (bldCells gs now count) from T4.out.get (i := 1) rfl).lt
              clear hvb hV hb3 ho3 HVE q0 q1 q2 q3 q4 q5 T3
              go_wp2_with (at_builtin; refine Stop.of ?_)
              have T5 := Lib.hid (T4.out.go (((Below.refl w3.heap.size w3).alloc (Nat.le_refl _) (.cells #[.string vk, .int .i64 n1, .slice A3 vv.length c3, .bool vd] 51)).alloc (by simp) (.cells #[.string vk, .int .i64 n1, .slice A3 vv.length c3, .bool vd] 51)))
              have KB := Lib.hid (show Blk ((w3.alloc (.cells #[.string vk, .int .i64 n1, .slice A3 vv.length c3, .bool vd] 51)).alloc (.cells #[.string vk, .int .i64 n1, .slice A3 vv.length c3, .bool vd] 51)) (w3.heap.size + 1) 51 #[.string vk, .int .i64 n1, .slice A3 vv.length c3, .bool vd] from by
                have := Blk.new (w3.alloc (.cells #[.string vk, .int .i64 n1, .slice A3 vv.length c3, .bool vd] 51)) 51 #[.string vk, .int .i64 n1, .slice A3 vv.length c3, .bool vd]
                rwa [show (w3.alloc (.cells #[.string vk, .int .i64 n1, .slice A3 vv.length c3, .bool vd] 51)).heap.size = w3.heap.size + 1 from by simp] at this)
              refine ⟨wpList_append_any _ rfl rfl 0 Tryz.underlying23 info_ver rfl (by decide) (by decide) rfl (show World.ownsRow _ 0 51 4 (.slice A' K c') K (hvCells hs) from Item.all_get (T5.out.get (i := 2) rfl) (List.mem_cons_self ..)) rfl (fresh_src KB.out Tryz.underlying23 rfl (by decide) rfl) (by omega) (Nat.zero_le _) ?_⟩
              intro v' w4 ho hg hf
              obtain ⟨A2, c2, rfl, _, _⟩ := own_slice ho
              have T6 := Lib.hid (gV_join (t := ⟨⟨vk, n1, vv, vd⟩, A3, c3⟩) (T5.out.step (i := 2) rfl (gV_app (t := ⟨⟨vk, n1, vv, vd⟩, A3, c3⟩) (T5.out.get (i := 2) rfl) ho hg hf)))
              have HRR := Lib.hid (show ∃ hs : List Hv, hs.map Hv.x = (l.take (K + 1)).map (wOf n1) ∧ comG n1 [] l = comG n1 (l.take (K + 1)) (l.drop (K + 1)) ∧ Turn (Item.all []) w0 (Item.all [s.item, Item.bld gb gs now count, gV A2 (K + 1) c2 hs]) w4 from ⟨_, by
                rw [List.map_append, HHS.out, List.take_succ_eq_append_getElem hKl, List.map_append, ← HX.out]
                show _ ++ [_] = _ ++ [wOf n1 _]
                unfold wOf
                rw [← HVV.out], HC.out.trans (HCU.out HR0.out (by simp) HUP.out), T6.out⟩)
              clear ho hg hf T4 T5 T6 y1
              go_wp2
              exact ⟨⟨K + 1, c2, A2, by go_num, rfl, hKi, HRR⟩, by simp [intOf]; omega⟩
            · obtain ⟨J, hJ⟩ : ∃ J, K = J + 1 := ⟨K - 1, by omega⟩
              have hJN : J < l.length := by omega
              obtain ⟨bb', off', Av', cv', hA', hbb', z0, z1, z2, z3, t0, z4, z5, z6⟩ := en_at (HS.out.below T2.out.free) hJN
              injection hA' with hA'
              injection hA' with e1 e2
              subst e1; subst e2
              obtain ⟨pk, hpk⟩ : ∃ k, k = (l[J]).key := ⟨_, rfl⟩
              rw [← hpk] at t0
              have HUP : Hid (notUp (l.take K) ⟨2, st, nn, key, v, dd⟩ = leB key pk) := Lib.hid (by rw [hJ]; exact notUp_J hJN hpk)
              have hJ1 : (K : Int) - 1 = (J : Int) := by omega
              have hJn : J < M := by omega
              have d0 : decide (0 < (K : Int)) = true := decide_eq_true (by omega)
              have d0' : decide (0 < K) = true := decide_eq_true (by omega)
              clear hJ h0 hpk z0 z1 z2 z3 z4 z5 z6 hbb' hJN
              cases hle : leB key pk with
              | true =>
                have hle' : (Op.bytesLess key.toList pk.toList || key.toList == pk.toList) = true := hle
                have HNO := Lib.hid (show comG (IntKind.i64.wrap (now + 1)) [] l = none from by rw [← HN1.out, HC.out, HCD.out (by simp) (by rw [HUP.out]; exact hle)])
                clear hle
                go_upto_region 11 with fail
                go_quiet (fail)
                have HRE2 := Lib.hid (show BcPost w0 s gb now count l N (.returned (.int .i64 0)) (w2.drewN nq) from .inl ⟨HNO.out, rfl, by
                  have := (T2.out.sub (M := [s.item, Item.bld gb gs now count]) (List.Sublist.cons_cons _ (List.Sublist.cons_cons _ (List.nil_sublist _)))).go (below_drewN (Below.refl _ _) nq)
                  rwa [HGS.out] at this⟩)
                clear T2 B2 HT HVAL
                go_wp2
                go_ret
                exact HRE2.out
              | false =>
                have hle' : (Op.bytesLess key.toList pk.toList || key.toList == pk.toList) = false := hle
                rw [hle] at HUP
                clear hle
                go_upto_region 11 with fail
                go_quiet (fail)
                have T3 := Lib.hid (T2.out.go (below_drewN (Below.refl _ _) nq))
                have HVE := Lib.hid (version_any (w := w2.drewN nq) (A := Av) (c := cv) ⟨2, st, nn, key, v, dd⟩ (((HVAL.out.below B2.out).more B2.out.size).below (below_drewN (Below.refl _ _) nq)) (by simp only; omega))
                clear T2
                go_wp2_with fail
                refine HVE.out.mono ?_
                rintro e w3 ⟨A3, c3, rfl, ho3, hb3⟩
                obtain ⟨⟨vk, vs, vv, vd⟩, hV⟩ : ∃ V, V = (En.version ⟨2, st, nn, key, v, dd⟩).1 := ⟨_, rfl⟩
                obtain ⟨vb, hvb⟩ : ∃ V, V = (En.version ⟨2, st, nn, key, v, dd⟩).2 := ⟨_, rfl⟩
                rw [← hV] at ho3 ⊢
                rw [← hvb, show Vn.cells ⟨vk, vs, vv, vd⟩ A3 c3 = #[.string vk, .int .i64 vs, .slice A3 vv.length c3, .bool vd] from rfl]
                have HVV := Lib.hid hV
                have T4 := Lib.hid (T3.out.add3 hb3 ho3)
                have y1 : w3.cell? ⟨gb, 1, none⟩ = some (.int .i64 now) := Blk.cell (show Blk w3 gb _ (bldCells gs now count) from T4.out.get (i := 1) rfl) 1
                have hgb : gb < w3.heap.size := (show Blk w3 gb _ (bldCells gs now count) from T4.out.get (i := 1) rfl).lt
                clear hvb hV hb3 ho3 HVE q0 q1 q2 q3 q4 q5 T3
                go_wp2_with (at_builtin; refine Stop.of ?_)
                have T5 := Lib.hid (T4.out.go (((Below.refl w3.heap.size w3).alloc (Nat.le_refl _) (.cells #[.string vk, .int .i64 n1, .slice A3 vv.length c3, .bool vd] 51)).alloc (by simp) (.cells #[.string vk, .int .i64 n1, .slice A3 vv.length c3, .bool vd] 51)))
                have KB := Lib.hid (show Blk ((w3.alloc (.cells #[.string vk, .int .i64 n1, .slice A3 vv.length c3, .bool vd] 51)).alloc (.cells #[.string vk, .int .i64 n1, .slice A3 vv.length c3, .bool vd] 51)) (w3.heap.size + 1) 51 #[.string vk, .int .i64 n1, .slice A3 vv.length c3, .bool vd] from by
                  have := Blk.new (w3.alloc (.cells #[.string vk, .int .i64 n1, .slice A3 vv.length c3, .bool vd] 51)) 51 #[.string vk, .int .i64 n1, .slice A3 vv.length c3, .bool vd]
                  rwa [show (w3.alloc (.cells #[.string vk, .int .i64 n1, .slice A3 vv.length c3, .bool vd] 51)).heap.size = w3.heap.size + 1 from by simp] at this)
                refine ⟨wpList_append_any _ rfl rfl 0 Tryz.underlying23 info_ver rfl (by decide) (by decide) rfl (show World.ownsRow _ 0 51 4 (.slice A' K c') K (hvCells hs) from Item.all_get (T5.out.get (i := 2) rfl) (List.mem_cons_self ..)) rfl (fresh_src KB.out Tryz.underlying23 rfl (by decide) rfl) (by omega) (Nat.zero_le _) ?_⟩
                intro v' w4 ho hg hf
                obtain ⟨A2, c2, rfl, _, _⟩ := own_slice ho
                have T6 := Lib.hid (gV_join (t := ⟨⟨vk, n1, vv, vd⟩, A3, c3⟩) (T5.out.step (i := 2) rfl (gV_app (t := ⟨⟨vk, n1, vv, vd⟩, A3, c3⟩) (T5.out.get (i := 2) rfl) ho hg hf)))
                have HRR := Lib.hid (show ∃ hs : List Hv, hs.map Hv.x = (l.take (K + 1)).map (wOf n1) ∧ comG n1 [] l = comG n1 (l.take (K + 1)) (l.drop (K + 1)) ∧ Turn (Item.all []) w0 (Item.all [s.item, Item.bld gb gs now count, gV A2 (K + 1) c2 hs]) w4 from ⟨_, by
                  rw [List.map_append, HHS.out, List.take_succ_eq_append_getElem hKl, List.map_append, ← HX.out]
                  show _ ++ [_] = _ ++ [wOf n1 _]
                  unfold wOf
                  rw [← HVV.out], HC.out.trans (HCU.out HR0.out (by simp) HUP.out), T6.out⟩)
                clear ho hg hf T4 T5 T6 y1
                go_wp2
                exact ⟨⟨K + 1, c2, A2, by go_num, rfl, hKi, HRR⟩, by simp [intOf]; omega⟩
          · by_cases h3 : k = 3
            · subst h3
              have y1 : w2.cell? ⟨gb, 1, none⟩ = some (.int .i64 now) := Blk.cell (show Blk w2 gb _ (bldCells gs now count) from T2.out.get (i := 1) rfl) 1
              by_cases h0 : K = 0
              · skip
                have HNO := Lib.hid (show comG (IntKind.i64.wrap (now + 1)) [] l = none from by rw [← HN1.out, HC.out, HCE.out HR0.out rfl, if_pos (.inl h0)])
                have b0 : ((K : Int) == 0) = true := beq_iff_eq.2 (by omega)
                have d0 : decide (K = 0) = true := decide_eq_true h0
                have d0' : decide ((K : Int) = 0) = true := decide_eq_true (by omega)
                clear h0
                go_upto_region 17 with fail
                go_quiet (fail)
                have HRE2 := Lib.hid (show BcPost w0 s gb now count l N (.returned (.int .i64 0)) (w2.drewN nq) from .inl ⟨HNO.out, rfl, by
                  have := (T2.out.sub (M := [s.item, Item.bld gb gs now count]) (List.Sublist.cons_cons _ (List.Sublist.cons_cons _ (List.nil_sublist _)))).go (below_drewN (Below.refl _ _) nq)
                  rwa [HGS.out] at this⟩)
                clear T2 B2 HT HVAL
                go_wp2
                go_ret
                exact HRE2.out
              · have b0 : ((K : Int) == 0) = false := beq_false_of_ne (by omega)
                have d0 : decide (K = 0) = false := decide_eq_false h0
                have d0' : decide ((K : Int) = 0) = false := decide_eq_false (by omega)
                by_cases e1 : st = n1
                · have b1 : (st == n1) = true := beq_iff_eq.2 e1
                  have b1n : (st != n1) = false := by unfold bne; rw [b1]; rfl
                  have d1 : decide (st = n1) = true := decide_eq_true e1
                  by_cases e2 : nn = (K : Int)
                  · have b2 : (nn == (K : Int)) = true := beq_iff_eq.2 e2
                    have b2n : (nn != (K : Int)) = false := by unfold bne; rw [b2]; rfl
                    have d2 : decide (nn = (K : Int)) = true := decide_eq_true e2
                    have HYES := Lib.hid (show comG (IntKind.i64.wrap (now + 1)) [] l = some (l.take K) from by rw [← HN1.out, HC.out, HCE.out HR0.out rfl, if_neg (by rintro (h | h | h); exact h0 h; exact h e1; exact h e2)])
                    clear h0 e1 e2
                    go_upto_region 17 with fail
                    go_quiet (fail)
                    have TL := Lib.hid (show ∃ s' : St, s'.gs = gs ∧ s'.ok (N + 0) ∧ s'.view = tryL s.view ((l.take 0).map (wOf n1)) ∧ Turn (Item.all []) w0 (Item.all [s'.item, Item.bld gb gs now count, gV A' K c' hs]) (w2.drewN nq) from ⟨s, HGS.out.symm, HOK.out, rfl, T2.out.go (below_drewN (Below.refl _ _) nq)⟩)
                    clear T2 B2 HT HVAL q0 q1 q2 q3 q4 q5 KE2 y1
                    go_wp2
                    go_loopw [77] (fun t wr => ∃ J : Nat, t = .int .i64 J ∧ J ≤ K ∧ Hid (∃ s' : St, s'.gs = gs ∧ s'.ok (N + J) ∧ s'.view = tryL s.view ((l.take J).map (wOf n1)) ∧ Turn (Item.all []) w0 (Item.all [s'.item, Item.bld gb gs now count, gV A' K c' hs]) wr)) (fun t _ => K - (intOf t).toNat)
                    case atStart => exact ⟨0, rfl, Nat.zero_le _, TL⟩
                    case round =>
                      clear TL
                      obtain ⟨J, rfl, hJ, hH⟩ := hrel
                      by_cases hJK : (J : Int) < (K : Int)
                      · have hJi : J + 1 ≤ K := by omega
                        have hJl : J < l.length := by omega
                        obtain ⟨s2, hg2, hok2, hv2, hT2⟩ := hH.out
                        have hlen : hs.length = K := by rw [← List.length_map (f := Hv.x), HHS.out, List.length_map, List.length_take]; omega
                        have hJh : J < hs.length := by omega
                        have hpk : (hs.map pvOf)[J]? = some (pvOf hs[J]) := by rw [List.getElem?_map, List.getElem?_eq_getElem hJh]; rfl
                        have hgv : (gP A' K c' (hs.map pvOf)).P wr := by rw [← gV_gP]; exact hT2.get (i := 2) rfl
                        obtain ⟨ga, hga, hgl, a0, a1, r0, r1, r2, r3⟩ := pv_at hgv (by rw [List.length_map]; exact hlen) hpk
                        have hrow := pv_row hgv hpk
                        have hx2 : (hs[J]).x = wOf n1 l[J] := by
                          have h1 : (hs.map Hv.x)[J]? = some (hs[J]).x := by rw [List.getElem?_map, List.getElem?_eq_getElem hJh]; rfl
                          rw [HHS.out, List.getElem?_map, List.getElem?_take_of_lt (show J < K by omega), List.getElem?_eq_getElem hJl] at h1
                          injection h1 with h1
                          exact h1.symm
                        obtain ⟨hj, hh⟩ : ∃ h, h = hs[J] := ⟨_, rfl⟩
                        rw [← hh] at hrow hx2 r0 r1 r2 r3
                        have hsz := wOf_size (n := n1) (HKS.out l[J] (List.getElem_mem _))
                        rw [← hx2] at hsz
                        have HX2 := Lib.hid hx2
                        obtain ⟨⟨vk, vs, vv, vd⟩, A3, c3⟩ := hj
                        simp only [pvOf] at r0 r1 r2 r3 hrow hsz
                        have hrd : BReads wr wr.heap.size A3 vv := by
                          obtain ⟨A1, c1, e, _, hr⟩ := BOwns.slice hrow
                          injection e with e6 _ e7
                          subst e6
                          exact hr
                        have hsz1 : vk.size ≤ 1099511627776 := hsz.1
                        have hsz2 : vv.length ≤ 1099511627776 := hsz.2
                        have BW := Lib.hid (((Below.refl wr.heap.size wr).alloc (Nat.le_refl _) (.cells #[.string vk, .int .i64 vs, .slice A3 vv.length c3, .bool vd] 51)).drew)
                        have T5 := Lib.hid ((((hT2.more (y := Item.blk wr.heap.size 51 #[.string vk, .int .i64 vs, .slice A3 vv.length c3, .bool vd]) ((Below.refl _ _).alloc (Nat.le_refl _) (.cells #[.string vk, .int .i64 vs, .slice A3 vv.length c3, .bool vd] 51)) (Blk.new _ _ _) (fun k hk => Nat.le_of_eq hk.symm)).by_ 4 rfl [1, 2, 3, 0] (by decide)).go (Below.refl _ _).drew))
                        have hap := apply_turn (i := 0) T5.out rfl hok2 (by have := HN.out; have := HM.out; omega) (A := A3) (c := c3) ⟨vk, vs, vv, vd⟩ ((hrd.below BW.out).more BW.out.size) (show vk.size ≤ maxLen from by unfold maxLen; omega) (show vv.length ≤ 140737488355328 from by omega)
                        rw [hg2, show Vn.cells ⟨vk, vs, vv, vd⟩ A3 c3 = #[.string vk, .int .i64 vs, .slice A3 vv.length c3, .bool vd] from rfl] at hap
                        have HAP := Lib.hid hap
                        have HS2 := Lib.hid hv2
                        have HG2 := Lib.hid hg2
                        have y0 := Blk.cell (show Blk _ gb _ (bldCells gs now count) from T5.out.get (i := 1) rfl) 0
                        have k0 := Blk.cell (show Blk _ wr.heap.size _ #[.string vk, .int .i64 vs, .slice A3 vv.length c3, .bool vd] from T5.out.get (i := 3) rfl) 0
                        have k1 := Blk.cell (show Blk _ wr.heap.size _ #[.string vk, .int .i64 vs, .slice A3 vv.length c3, .bool vd] from T5.out.get (i := 3) rfl) 1
                        have k2 := Blk.cell (show Blk _ wr.heap.size _ #[.string vk, .int .i64 vs, .slice A3 vv.length c3, .bool vd] from T5.out.get (i := 3) rfl) 2
                        have k3 := Blk.cell (show Blk _ wr.heap.size _ #[.string vk, .int .i64 vs, .slice A3 vv.length c3, .bool vd] from T5.out.get (i := 3) rfl) 3
                        simp only [List.getElem?_toArray, List.getElem?_cons_zero, List.getElem?_cons_succ, bldCells] at y0 k0 k1 k2 k3
                        subst hga
                        have hgl' := hgl
                        clear hh hrow hx2 hsz hrd hap hv2 hg2 hok2 hT2 hH hpk hgv hgl a0 a1 hlen hJh
                        go_upto_region 22 with fail
                        go_region_held3 (fun w' => w'.cell? ⟨gb, 0, none⟩ = some (.pointer (some ⟨gs, 0, none⟩)) ∧ w'.cell? ⟨wr.heap.size, 0, none⟩ = some (.string vk) ∧ w'.cell? ⟨wr.heap.size, 1, none⟩ = some (.int .i64 vs) ∧ w'.cell? ⟨wr.heap.size, 2, none⟩ = some (.slice A3 vv.length c3) ∧ w'.cell? ⟨wr.heap.size, 3, none⟩ = some (.bool vd)) (first | (with_reducible exact ⟨y0, k0, k1, k2, k3⟩) | (with_reducible exact ⟨z0, m0, m1, m2, m3⟩) | go_keep) ((go_at_call 64; refine HAP.out.mono ?_; rintro e w5 ⟨rfl, s3, hg3, _, hok3, hv3, t⟩; have T6 := Lib.hid t; have z0 := Blk.cell (show Blk _ gb _ (bldCells gs now count) from T6.out.get (i := 1) rfl) 0; have m0 := Blk.cell (show Blk _ wr.heap.size _ #[.string vk, .int .i64 vs, .slice A3 vv.length c3, .bool vd] from T6.out.get (i := 3) rfl) 0; have m1 := Blk.cell (show Blk _ wr.heap.size _ #[.string vk, .int .i64 vs, .slice A3 vv.length c3, .bool vd] from T6.out.get (i := 3) rfl) 1; have m2 := Blk.cell (show Blk _ wr.heap.size _ #[.string vk, .int .i64 vs, .slice A3 vv.length c3, .bool vd] from T6.out.get (i := 3) rfl) 2; have m3 := Blk.cell (show Blk _ wr.heap.size _ #[.string vk, .int .i64 vs, .slice A3 vv.length c3, .bool vd] from T6.out.get (i := 3) rfl) 3; simp only [List.getElem?_toArray, List.getElem?_cons_zero, List.getElem?_cons_succ, bldCells] at z0 m0 m1 m2 m3; have HV3 := Lib.hid (And.intro hg3 (And.intro hok3 hv3)); clear hg3 hok3 hv3 t HAP))
                        have TR := Lib.hid (show ∃ s' : St, s'.gs = gs ∧ s'.ok (N + (J + 1)) ∧ s'.view = tryL s.view ((l.take (J + 1)).map (wOf n1)) ∧ Turn (Item.all []) w0 (Item.all [s'.item, Item.bld gb gs now count, gV (some ⟨ga, 0, none⟩) K c' hs]) w5 from ⟨s3, HV3.out.1, by rw [← Nat.add_assoc]; exact HV3.out.2.1, by
                          rw [HV3.out.2.2, HS2.out, List.take_succ_eq_append_getElem hJl, List.map_append]
                          show _ = tryL s.view (_ ++ [_])
                          rw [tryL_snoc, ← HX2.out], T6.out.sub (List.Sublist.cons_cons _ (List.Sublist.cons_cons _ (List.Sublist.cons_cons _ (List.nil_sublist _))))⟩)
                        clear z0 m0 m1 m2 m3 y0 k0 k1 k2 k3 T5 T6
                        go_wp2
                        exact ⟨⟨J + 1, by go_num, hJi, TR⟩, by simp [intOf]; omega⟩
                      · obtain rfl : J = K := by omega
                        obtain ⟨s2, hg2, hok2, hv2, hT2⟩ := hH.out
                        have HS2 := Lib.hid (And.intro hg2 (And.intro hok2 hv2))
                        have T7 := Lib.hid hT2
                        have y1 : wr.cell? ⟨gb, 1, none⟩ = some (.int .i64 now) := Blk.cell (show Blk wr gb _ (bldCells gs now count) from T7.out.get (i := 1) rfl) 1
                        have f1 : wr.frozen? ⟨gb, 1, none⟩ = false := Blk.frozen (show Blk wr gb _ (bldCells gs now count) from T7.out.get (i := 1) rfl) 1
                        have HRE := Lib.hid (show BcPost w0 s gb now count l N (.returned (.int .i64 ((J : Int) + 1))) (wr.setCell ⟨gb, 1, none⟩ (.int .i64 n1)) from .inr ⟨l.take J, HYES.out, by rw [List.length_take, Nat.min_eq_left (by omega)]; rfl, s2, by rw [HS2.out.1, HGS.out], by rw [List.length_take, Nat.min_eq_left (by omega)]; exact HS2.out.2.1, by rw [HS2.out.2.2, ← HN1.out], by
                          have t := T7.out.step (i := 1) rfl (Turn.cell (show Blk wr gb _ (bldCells gs now count) from T7.out.get (i := 1) rfl) 1 (.int .i64 n1))
                          have t2 := t.sub (M := [s2.item, Item.bld gb gs n1 count]) (List.Sublist.cons_cons _ (List.Sublist.cons_cons _ (List.nil_sublist _)))
                          rw [← HGS.out, ← HN1.out]; exact t2⟩)
                        clear hg2 hok2 hv2 hT2 hH T7
                        go_wp2
                        go_ret
                        exact HRE.out
                  · have b2 : (nn == (K : Int)) = false := beq_false_of_ne e2
                    have b2n : (nn != (K : Int)) = true := by unfold bne; rw [b2]; rfl
                    have d2 : decide (nn = (K : Int)) = false := decide_eq_false e2
                    have HNO := Lib.hid (show comG (IntKind.i64.wrap (now + 1)) [] l = none from by rw [← HN1.out, HC.out, HCE.out HR0.out rfl, if_pos (.inr (.inr e2))])
                    clear e1 e2 h0
                    go_upto_region 17 with fail
                    go_quiet (fail)
                    have HRE2 := Lib.hid (show BcPost w0 s gb now count l N (.returned (.int .i64 0)) (w2.drewN nq) from .inl ⟨HNO.out, rfl, by
                      have := (T2.out.sub (M := [s.item, Item.bld gb gs now count]) (List.Sublist.cons_cons _ (List.Sublist.cons_cons _ (List.nil_sublist _)))).go (below_drewN (Below.refl _ _) nq)
                      rwa [HGS.out] at this⟩)
                    clear T2 B2 HT HVAL
                    go_wp2
                    go_ret
                    exact HRE2.out
                · have b1 : (st == n1) = false := beq_false_of_ne e1
                  have b1n : (st != n1) = true := by unfold bne; rw [b1]; rfl
                  have d1 : decide (st = n1) = false := decide_eq_false e1
                  have HNO := Lib.hid (show comG (IntKind.i64.wrap (now + 1)) [] l = none from by rw [← HN1.out, HC.out, HCE.out HR0.out rfl, if_pos (.inr (.inl e1))])
                  clear e1 h0
                  go_upto_region 17 with fail
                  go_quiet (fail)
                  have HRE2 := Lib.hid (show BcPost w0 s gb now count l N (.returned (.int .i64 0)) (w2.drewN nq) from .inl ⟨HNO.out, rfl, by
                    have := (T2.out.sub (M := [s.item, Item.bld gb gs now count]) (List.Sublist.cons_cons _ (List.Sublist.cons_cons _ (List.nil_sublist _)))).go (below_drewN (Below.refl _ _) nq)
                    rwa [HGS.out] at this⟩)
                  clear T2 B2 HT HVAL
                  go_wp2
                  go_ret
                  exact HRE2.out
            · have HRE := Lib.hid (show BcPost w0 s gb now count l N (.returned (.int .i64 0)) w2 from .inl ⟨by rw [← HN1.out, HC.out, HCO.out h1 h2 h3], rfl, by
                have := T2.out.sub (M := [s.item, Item.bld gb gs now count]) (List.Sublist.cons_cons _ (List.Sublist.cons_cons _ (List.nil_sublist _)))
                rwa [HGS.out] at this⟩)
              have d1 : decide (k = 1) = false := decide_eq_false h1
              have d2 : decide (k = 2) = false := decide_eq_false h2
              have d3 : decide (k = 3) = false := decide_eq_false h3
              clear T2 B2 HT HVAL
              go_wp2
              go_ret
              exact HRE.out
      · have HRE := Lib.hid (show BcPost w0 s gb now count l N (.returned (.int .i64 0)) w2 from .inl ⟨by rw [← HN1.out, HC.out, HCB.out (by rw [← HR.out]; exact hr0)], rfl, by
          have := T2.out.sub (M := [s.item, Item.bld gb gs now count]) (List.Sublist.cons_cons _ (List.Sublist.cons_cons _ (List.nil_sublist _)))
          rwa [HGS.out] at this⟩)
        have d0 : decide (R = 0) = false := decide_eq_false hr0
        clear T2 B2 HT HVAL
        go_wp2
        go_ret
        exact HRE.out
    · obtain rfl : K = M := by omega
      obtain ⟨hs, hhs, hcom, hT⟩ := hH.out
      have HRE := Lib.hid (show BcPost w0 s gb now count l N (.returned (.int .i64 0)) wr from .inl ⟨by rw [← HN1.out, hcom, List.drop_of_length_le (by rw [← HM.out]; exact Nat.le_refl _)]; unfold comG; rfl, rfl, by
        have := hT.sub (M := [s.item, Item.bld gb gs now count]) (List.Sublist.cons_cons _ (List.Sublist.cons_cons _ (List.nil_sublist _)))
        rwa [HGS.out] at this⟩)
      clear hhs hcom hT hH
      go_wp2
      go_ret
      exact HRE.out
end Go.Proofs.YtmnpchncmbnddaaGreat
/- Rebuild: does a version stand behind another, by contract. -/
namespace Go.Proofs.YtmnpchncmbnddaaGreat
open Go.RowKit

def nextB (v l : Vn) : Bool := (!Op.bytesLess v.key.toList l.key.toList && !(v.key.toList == l.key.toList)) || (v.key.toList == l.key.toList && decide (l.stamp < v.stamp))
set_option maxRecDepth 100000 in
set_option maxHeartbeats 1600000 in
theorem isNext_any {w : World} {A A' : Option Addr} {c c' : Nat} (v l : Vn) :
    Calls Tryz.prog 162 #[.agg (v.cells A c), .agg (l.cells A' c')] w fun e w' => e = .returned (.bool (nextB v l)) ∧ Below w.heap.size w w' := by
  obtain ⟨key, s, p, d⟩ := v
  obtain ⟨lk, ls, lp, ld⟩ := l
  rw [show Vn.cells ⟨key, s, p, d⟩ A c = #[.string key, .int .i64 s, .slice A p.length c, .bool d] from rfl, show Vn.cells ⟨lk, ls, lp, ld⟩ A' c' = #[.string lk, .int .i64 ls, .slice A' lp.length c', .bool ld] from rfl]
  have HB := Lib.hid (((Below.refl w.heap.size w).alloc (Nat.le_refl _) (.cells #[.string key, .int .i64 s, .slice A p.length c, .bool d] 51)).alloc (by simp) (.cells #[.string lk, .int .i64 ls, .slice A' lp.length c', .bool ld] 51))
  have HN := Lib.hid (show nextB ⟨key, s, p, d⟩ ⟨lk, ls, lp, ld⟩ = ((!Op.bytesLess key.toList lk.toList && !(key.toList == lk.toList)) || (key.toList == lk.toList && decide (ls < s))) from rfl)
  obtain ⟨R, hR⟩ : ∃ R, R = nextB ⟨key, s, p, d⟩ ⟨lk, ls, lp, ld⟩ := ⟨_, rfl⟩
  rw [← hR] at HN ⊢
  obtain ⟨b1, hb1⟩ : ∃ b, Op.bytesLess key.toList lk.toList = b := ⟨_, rfl⟩
  obtain ⟨b2, hb2⟩ : ∃ b, (key.toList == lk.toList) = b := ⟨_, rfl⟩
  rw [hb1, hb2] at HN
  clear hR
  go_enter Tryz.func162, Tryz.ntmps162
  cases b1 with
  | true =>
    cases b2 with
    | true =>
      go_wp2
      go_ret
      exact ⟨by rw [HN.out]; simp, HB.out⟩
    | false =>
      go_wp2
      go_ret
      exact ⟨by rw [HN.out]; simp, HB.out⟩
  | false =>
    cases b2 with
    | true =>
      go_wp2
      go_ret
      exact ⟨by rw [HN.out]; simp, HB.out⟩
    | false =>
      go_wp2
      go_ret
      exact ⟨by rw [HN.out]; simp, HB.out⟩
end Go.Proofs.YtmnpchncmbnddaaGreat
/- Rebuild: a checkpoint group read, by contract. -/
namespace Go.Proofs.YtmnpchncmbnddaaGreat
open Go.RowKit

def vOf (e : En) : Vn := ⟨e.key, e.stamp, e.value, e.dead⟩
def badNext (prev : List Vn) (v : Vn) : Bool := match prev.getLast? with | some p => !nextB v p | none => false
/-- The versions between open and seal; none: they are none. -/
noncomputable def ckV (top : Int) : List Vn → List En → Option (List Vn)
  | prev, [] => some prev
  | prev, e :: r => if e.kind ≠ 5 ∨ e.chk ≠ 0 ∨ top < e.stamp then none else if badNext prev (vOf e) = true then none else ckV top (prev ++ [vOf e]) r
/-- The store of the checkpoint group at the head, its stamp, how many entries it has. -/
noncomputable def ckF (now count : Int) : List En → Option (PS × Int × Nat)
  | [] => none
  | o :: r => if o.chk ≠ 0 ∨ (r.length : Int) - 1 < o.count then none else if o.stamp ≠ now ∧ (0 < count ∨ o.stamp < now) then none else
    match ckV o.stamp [] (r.take o.count.toNat) with
    | none => none
    | some vs => match r[o.count.toNat]? with
      | none => none
      | some e => if e.kind = 6 ∧ e.stamp = o.stamp ∧ e.count = o.count ∧ e.chk = 0 then (if (loadF [] vs).2 = 0 then some ((loadF [] vs).1, o.stamp, o.count.toNat + 2) else none) else none
section
variable {top : Int} {l : List En} {K m : Nat} {x : En}
theorem ckV_bad (h : K < l.length) (hx : x = l[K]) (hc : x.kind ≠ 5 ∨ x.chk ≠ 0 ∨ top < x.stamp) : ckV top ((l.take K).map vOf) (l.drop K) = none := by
  subst hx
  rw [List.drop_eq_getElem_cons h]
  exact if_pos hc
theorem ckV_down (h : K < l.length) (hx : x = l[K]) (hb : badNext ((l.take K).map vOf) (vOf x) = true) : ckV top ((l.take K).map vOf) (l.drop K) = none := by
  subst hx
  rw [List.drop_eq_getElem_cons h]
  unfold ckV
  by_cases hc : l[K].kind ≠ 5 ∨ l[K].chk ≠ 0 ∨ top < l[K].stamp
  · rw [if_pos hc]
  · rw [if_neg hc, if_pos hb]
theorem ckV_up (h : K < l.length) (hx : x = l[K]) (hc : ¬ (x.kind ≠ 5 ∨ x.chk ≠ 0 ∨ top < x.stamp)) (hb : badNext ((l.take K).map vOf) (vOf x) = false) : ckV top ((l.take K).map vOf) (l.drop K) = ckV top ((l.take (K + 1)).map vOf) (l.drop (K + 1)) := by
  subst hx
  rw [List.drop_eq_getElem_cons h, List.take_succ_eq_append_getElem h, List.map_append]
  conv => lhs; unfold ckV
  rw [if_neg hc, if_neg (by rw [hb]; simp)]; rfl
theorem badNext_0 : badNext ((l.take 0).map vOf) (vOf x) = false := rfl
theorem badNext_J {J : Nat} (h : J < l.length) {p : Vn} (hp : p = vOf l[J]) : badNext ((l.take (J + 1)).map vOf) (vOf x) = !nextB (vOf x) p := by
  unfold badNext
  rw [List.take_succ_eq_append_getElem h, List.map_append, List.map_singleton, List.getLast?_concat, hp]
end
theorem gV_joinL {a : Item} {w0 w : World} {A : Option Addr} {n c : Nat} {hs : List Hv} {t : Hv} {L : List Item} (T : Turn a w0 (Item.all (Item.all (Item.rowT 51 4 (.slice A n c) n (hvCells (hs ++ [t])) :: hvRows hs) :: Item.row (.slice t.A t.x.value.length t.c) t.x.value :: L)) w) : Turn a w0 (Item.all (gV A n c (hs ++ [t]) :: L)) w := by
  have t1 := T.sameR same_flat
  have t2 : Turn a w0 (Item.all ((Item.rowT 51 4 (.slice A n c) n (hvCells (hs ++ [t])) :: hvRows (hs ++ [t])) ++ L)) w := by
    rw [hvRows_snoc]
    rw [List.cons_append] at t1 ⊢
    rw [List.append_assoc]
    exact t1
  exact t2.sameR (Item.Same.symm same_flat)
theorem sl_eints {w : World} {B : Nat} {A : Option Addr} {l : List En} (h : kEn.Sl w B A l) : ∀ e ∈ l, (vOf e).ints := fun e he => by
  obtain ⟨i, hi, rfl⟩ := List.mem_iff_getElem.1 he
  obtain ⟨_, _, _, _, _, _, h, _⟩ := en_at h hi
  exact ⟨h.2.1.1, h.2.1.2⟩
theorem gV_nil {w : World} : (gV none 0 0 []).P w := show (Item.all [Item.rowT 51 4 (.slice none 0 0) 0 []]).P w from ⟨fun i hi => by obtain rfl := List.mem_singleton.1 hi; exact World.ownsRow_nil _ _ _ _, List.pairwise_singleton _ _⟩
def CkPost (w0 : World) (s : St) (gb : Nat) (now count : Int) (l : List En) (e : Ending) (w' : World) : Prop :=
  ckF now count l = none ∧ e = .returned (.int .i64 0) ∧ Turn (Item.all []) w0 (Item.all [s.item, Item.bld gb s.gs now count]) w' ∨
  ∃ S st n, ckF now count l = some (S, st, n) ∧ e = .returned (.int .i64 (n : Nat)) ∧ ∃ s' : St, s'.ok n ∧ s'.view = S ∧ Turn (Item.all []) w0 (Item.all [s'.item, Item.bld gb s'.gs st count]) w'
end Go.Proofs.YtmnpchncmbnddaaGreat
