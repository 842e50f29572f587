/- Contract: component of package market. -/
import Derived.Test.YtnljnjnmhbkdoaaBaseM3
import Derived.Deep.DeepCutAuto
namespace Go.Proofs.Ytnljnjnmhbkdoaa
open Go.RowKit

set_option maxRecDepth 100000 in
set_option maxHeartbeats 4000000 in
theorem mcomp_walk (A : Option Addr) (n c : Nat) (U : Option Addr) (d k e first : Nat) (B : List Int) (V : List (List Int)) (bb PB dm N0 : Nat) (don : Nd → Bool) (pq : Nat → Rat) (sp : Nat → Nat → Rat) (R : Nat → Nat) (SB : Nat) (w0 w : World)
    (hsp : SpIn w0 w bb PB dm SB n k R sp) (h : CompIn w0 w A n U k B V bb PB dm N0 don pq) (he : e < 512) (hf : first < k) :
    Calls Try.prog 70 #[mktV A n c U n d, .int .i64 (e : Int), .int .i64 (first : Int), .pointer (some ⟨bb, 0, none⟩), .map (some dm)] w (CompPost B V e n k first don pq sp w dm PB N0 R) := by
  obtain ⟨w1, hw1⟩ : ∃ w1, w1 = ((w.alloc (.cells #[.slice A n c, .slice U n d] 30)).alloc (.cells #[.bool true, .int .i64 (first : Int)] 100)).alloc (.map #[] 0) := ⟨_, rfl⟩
  have hb1 : Below w.heap.size w w1 := by rw [hw1]; exact (((Below.refl _ _).alloc (Nat.le_refl _) _).alloc (by simp) _).alloc (by simp; omega) _
  have hM1 : Blk w1 w.heap.size 30 #[.slice A n c, .slice U n d] := by rw [hw1]; exact ((Blk.new _ _ _ rfl).alloc _).alloc _
  have hO1 : Blk w1 (w.heap.size + 1) 100 #[.bool true, .int .i64 (first : Int)] := by rw [hw1]; exact (Blk.new _ _ _ (by simp)).alloc _
  have hR1 : MapN w1 (w.heap.size + 2) 0 (.agg #[.bool false, .int .i64 0]) (fun _ => .agg #[.bool false, .int .i64 0]) := by
    rw [hw1]
    have := MapN.made ((w.alloc (.cells #[.slice A n c, .slice U n d] 30)).alloc (.cells #[.bool true, .int .i64 (first : Int)] 100)) (.agg #[.bool false, .int .i64 0])
    simpa using this
  have hD1 : MapN w1 dm N0 (.bool false) (fun x => .bool (don x)) := h.donm.kept (hb1.block _ h.donm.lt)
  have hsz1 : w1.heap.size = w.heap.size + 3 := by rw [hw1]; simp
  obtain ⟨o1, o2, _, _⟩ := hO1.at2
  have hN := h.hN
  have hk3 := h.hk
  obtain ⟨w2, hrun2, hD2, hg2⟩ := hD1.store (t := 98) Try.underlying98 (c := true) (i := first) (by omega) (.bool true) (by omega)
  have HSP := Lib.hid hsp
  clear hsp
  have H := Lib.hid (And.intro h (And.intro hM1 (And.intro hR1 (And.intro hb1 (And.intro hD2 (And.intro hg2 he))))))
  clear h hb1 hM1 hR1 hD1 hD2 hg2 he hN
  unfold mktV
  have hmm := @run_makeMap Try.prog
  go_enter Try.func70, Try.ntmps70
  subst hw1
  go_wp2_with fail
  have hN3 : 1 ≤ w0.heap.size ∨ True := .inr trivial
  have hk1 : Kept w.heap.size [dm, PB] w w2 := (Kept.of_below H.out.2.2.2.1 _).grown H.out.2.2.2.2.2.1 (by omega) (fun q hq => by injection hq with hq; exact .inl (by rw [← hq]; simp))
  have hg2 := H.out.2.2.2.2.2.1
  have hs2 := hg2.size
  have hdl := H.out.1.donm.lt
  have hO2 : Blk w2 (w.heap.size + 1) 100 #[.bool true, .int .i64 (first : Int)] := hO1.grown hg2 (by intro e; injection e with e; omega)
  have hM2 : Blk w2 w.heap.size 30 #[.slice A n c, .slice U n d] := H.out.2.1.grown hg2 (by intro e; injection e with e; omega)
  have hR2 : MapN w2 (w.heap.size + 2) 0 (.agg #[.bool false, .int .i64 0]) (fun _ => .agg #[.bool false, .int .i64 0]) := H.out.2.2.1.kept (hg2.block _ (by omega) (by intro e; injection e with e; omega))
  have hP2 : PrB w2 PB 77 (psOf k don pq) := (H.out.1.pri.below H.out.2.2.2.1 H.out.1.pri.lt).grown hg2 (by intro e; injection e with e; exact H.out.1.dp e.symm)
  have hbal2 : w2.cell? ⟨bb, 0, none⟩ = some (.slice (some ⟨PB, 0, none⟩) k k) := by
    have e1 := hk1.cell (p := ⟨bb, 0, none⟩) H.out.1.blt (by have := H.out.1.bd; have := H.out.1.bp; simp; omega)
    rw [e1]; exact H.out.1.bal
  have H2 := Lib.hid (And.intro hO2 (And.intro hM2 (And.intro hR2 (And.intro hP2 (And.intro hk1 hbal2)))))
  have HW2 : Hid (∀ s : Desc w2, Calls Try.prog 47 #[.int .i64 1] s.val fun e w'' => e = .returned (.agg #[.int .i64 1, .int .i64 1]) ∧ ∃ s' : Desc w2, w'' = s'.val) := Lib.hid fun s => Calls.desc_of (mwhole_any 1 _)
  have d1 : ∀ s : Desc w2, s.val.cell? ⟨bb, 0, none⟩ = some (.slice (some ⟨PB, 0, none⟩) k k) := fun s => s.cell hbal2
  have hPl := hP2.lt
  clear hO2 hM2 hR2 hP2 hk1 hbal2 o1 o2 hrun2 hN3 hg2 hO1
  refine wp_region_desc_tail 7 (by kernel_rfl) (by kernel_rfl) ?_
  simp only [List.take_succ_cons, List.take_zero, List.drop_succ_cons, List.drop_zero]
  repeat (go_big_quiet_step (first | (go_at_call 47; exact HW2.out _)))
  refine wpQuiet_nil ?_
  rintro _ ⟨sd, rfl⟩
  have hb3 := sd.below
  generalize sd.val = w3 at hb3 ⊢
  clear d1
  have hP3 := H2.out.2.2.2.1.below hb3 hPl
  have hpg : (psOf k don pq).length = k := by simp [psOf]
  obtain ⟨⟨pa, pb⟩, hpx⟩ : ∃ x, (psOf k don pq)[first]? = some x := ⟨_, List.getElem?_eq_getElem (by omega)⟩
  obtain ⟨r1, r2⟩ := hP3.read hpx
  have r3 := hP3.frozen (first * 2)
  have r4 := hP3.frozen (first * 2 + 1)
  clear hpx
  go_wp2_with fail
  have hk3' : Kept w.heap.size [dm, PB] w w3 := H2.out.2.2.2.2.1.trans (Kept.of_below (hb3.mono H2.out.2.2.2.2.1.size) _)
  have hw0 : w.heap.size + 3 ≤ w2.heap.size := by simpa using hs2
  have hw3s := hb3.size
  obtain ⟨w4, hw4⟩ : ∃ w4, w4 = (w3.setCell ⟨PB, first * 2, none⟩ (.int .i64 1)).setCell ⟨PB, first * 2 + 1, none⟩ (.int .i64 1) := ⟨_, rfl⟩
  have hpl0 := H.out.1.pri.lt
  have hP4 : PrB w4 PB 77 (psOf k (start0 don pq first).don (start0 don pq first).pq) := by
    have h1 := hP3.set_ first 1 1
    rw [← hw4] at h1
    have h2 := psOf_set (G := k) (don := don) (pq := pq) (g := first) 1
    rw [show ((1 : Rat).num, ((1 : Rat).den : Int)) = ((1, 1) : Int × Int) from rfl] at h2
    rw [h2] at h1
    exact h1
  have hM4 : Blk w4 w.heap.size 30 #[.slice A n c, .slice U n d] := by
    rw [hw4]; exact ((H2.out.2.1.below hb3 (by omega)).far (by simp; omega) _).far (by simp; omega) _
  have hO4 : Blk w4 (w.heap.size + 1) 100 #[.bool true, .int .i64 (first : Int)] := by
    rw [hw4]; exact ((H2.out.1.below hb3 (by omega)).far (by simp; omega) _).far (by simp; omega) _
  have hR4 : MapN w4 (w.heap.size + 1 + 1) 0 (.agg #[.bool false, .int .i64 0]) (fun _ => .agg #[.bool false, .int .i64 0]) := by
    rw [hw4]
    have h1 := H2.out.2.2.1.kept (hb3.block _ H2.out.2.2.1.lt)
    have h2 := h1.kept (Below.heap_setCell w3 ⟨PB, first * 2, none⟩ (.int .i64 1) _ (by simp; omega))
    exact h2.kept (Below.heap_setCell _ ⟨PB, first * 2 + 1, none⟩ (.int .i64 1) _ (by simp; omega))
  have hD4 : MapN w4 dm (N0 + 1) (.bool false) (fun x => .bool ((start0 don pq first).don x)) := by
    rw [hw4]
    have hne : dm ≠ PB := H.out.1.dp
    have h1 := H.out.2.2.2.2.1.kept (hb3.block _ H.out.2.2.2.2.1.lt)
    have h2 := h1.kept (Below.heap_setCell w3 ⟨PB, first * 2, none⟩ (.int .i64 1) _ (by simpa using hne))
    have h3 := h2.kept (Below.heap_setCell _ ⟨PB, first * 2 + 1, none⟩ (.int .i64 1) _ (by simpa using hne))
    have e : (fun x => Value.bool ((start0 don pq first).don x)) = fun y => if y = (true, first) then Value.bool true else Value.bool (don y) := by
      funext y
      show Value.bool (upd don (true, first) true y) = _
      unfold upd
      split <;> rfl
    rw [e]
    exact h3
  have hk4 : Kept w.heap.size [dm, PB] w w4 := by rw [hw4]; exact (hk3'.setCell (.inl (by simp)) _).setCell (.inl (by simp)) _
  have hs4 : w4.heap.size = w3.heap.size := by rw [hw4]; simp [World.setCell]
  rw [← hw4]
  have H4 := Lib.hid (And.intro hP4 (And.intro hM4 (And.intro hO4 (And.intro hR4 (And.intro hD4 hk4)))))
  clear hP4 hM4 hO4 hR4 hD4 hk4 hw4 hP3 hb3 hk3' r1 r2 r3 r4 HW2 H2 hpg
  refine (mwhole_any 0 _).mono ?_
  rintro ev w5 ⟨rfl, hb5⟩
  rw [fr_int]
  have hs5 := hb5.size
  have hM6 : CMem w (w5.alloc (.cells #[.int .i64 0, .int .i64 1] 77)) #[.slice A n c, .slice U n d] w5.heap.size (w.heap.size + 1 + 1) dm PB N0 k (some ⟨w.heap.size + 1, 0, none⟩) 1 (start0 don pq first) 0 := by
    have hb6 : Below w4.heap.size w4 (w5.alloc (.cells #[.int .i64 0, .int .i64 1] 77)) := hb5.alloc hs5 _
    obtain ⟨a1, a2, a3, a4, a5, a6⟩ := H4.out
    exact {
      mkb := a2.below hb6 a2.lt
      own := ⟨rfl, .inr ⟨_, 1, _, rfl, by omega, a3.below hb6 a3.lt, Nat.le_refl _, by decide, rfl, rfl⟩⟩
      ne := by intro ad he; injection he with he; rw [← he]; simp; omega
      tot := Blk.new _ _ _ rfl
      parm := (a4.kept (hb6.block _ a4.lt)).mono (by omega)
      donm := a5.kept (hb6.block _ a5.lt)
      pri := a1.below hb6 a1.lt
      kept := a6.trans (Kept.of_below (hb6.mono a6.size) _) }
  have H6 := Lib.hid hM6
  have hTB : w.heap.size + 3 ≤ w5.heap.size := by omega
  clear hM6 hb5 H4
  go_wp2_with fail
  go_loopw [11, 13, 15] (fun ov bv kv wr => ∃ (j : Nat) (st : CSt) (A2 : Option Addr) (c2 : Nat), j ≤ st.ord.length ∧ kv = .int .i64 j ∧ ov = .slice A2 st.ord.length c2 ∧ bv = .int .i64 (budOf B (st.ord.take j)) ∧ srchTo V e n (max n k) (start0 don pq first) j = some st ∧ CInv V n first st ∧ CMem w wr #[.slice A n c, .slice U n d] w5.heap.size (w.heap.size + 1 + 1) dm PB N0 k A2 c2 st j) (fun _ _ kv _ => 6 - (intOf kv).toNat)
  case atStart => exact ⟨0, start0 don pq first, some ⟨w.heap.size + 1, 0, none⟩, 1, by simp [start0], rfl, rfl, rfl, rfl, CInv.start don pq (by rw [H.out.1.hg]; exact hf), H6.out⟩
  case round =>
    obtain ⟨j, st, A2, c2, hj, rfl, rfl, rfl, hsr, hinv, hmem⟩ := hrel
    obtain ⟨wo, rfl⟩ : ∃ wo : World, wo = wr := ⟨_, rfl⟩
    have hlen := hinv.len (by rw [H.out.1.hg]; exact hk3.2) H.out.1.hn.2
    have HR := Lib.hid (And.intro hsr (And.intro hinv hmem))
    clear hsr hinv hmem
    by_cases hlt : j < st.ord.length
    · as_aux_lemma =>
        obtain ⟨⟨xb, xi⟩, hx⟩ : ∃ x, st.ord[j]? = some x := ⟨_, List.getElem?_eq_getElem hlt⟩
        obtain ⟨go, rfl, hgo1, hgo2, hcell⟩ := own_someN HR.out.2.2.own (by omega)
        obtain ⟨n1, n2⟩ := ncells_at _ _ _ hx
        have x1 := hcell _ _ n1
        have x2 := hcell _ _ n2
        dsimp only at x1 x2
        have HX := Lib.hid hx
        clear hx hcell n1 n2
        have hbx : Below wo.heap.size wo (wo.alloc (.cells #[.bool xb, .int .i64 (xi : Int)] 100)) := (Below.refl _ _).alloc (Nat.le_refl _) _
        have hmx := HR.out.2.2.below hbx
        have hX0 : Blk (wo.alloc (.cells #[.bool xb, .int .i64 (xi : Int)] 100)) wo.heap.size 100 #[.bool xb, .int .i64 (xi : Int)] := Blk.new _ _ _ rfl
        have hxm : (xb, xi) ∈ st.ord := List.mem_of_getElem? HX.out
        have hxr := HR.out.2.1.rng _ hxm
        have htk : st.ord.take (j + 1) = st.ord.take j ++ [(xb, xi)] := by rw [List.take_add_one, HX.out]; rfl
        have HMX := Lib.hid (And.intro hmx (And.intro hX0 (And.intro hxm htk)))
        have hwos : w.heap.size + 3 ≤ wo.heap.size := by have := HR.out.2.2.tot.lt; omega
        have htb : w5.heap.size < wo.heap.size := HR.out.2.2.tot.lt
        have hpb : PB < wo.heap.size := HR.out.2.2.pri.lt
        have hdb : dm < wo.heap.size := HR.out.2.2.donm.lt
        clear hbx hX0 hxm htk hmx
        go_upto_if 58 with fail
        go_cut [13] (fun bv wx => bv = .int .i64 (budOf B (st.ord.take (j + 1))) ∧ CMem w wx #[.slice A n c, .slice U n d] w5.heap.size (w.heap.size + 1 + 1) dm PB N0 k (some ⟨go, 0, none⟩) c2 st (j + 1) ∧ Blk wx wo.heap.size 100 #[.bool xb, .int .i64 (xi : Int)])
        case first =>
          as_aux_lemma =>
            obtain ⟨w6, hw6⟩ : ∃ w6, w6 = wo.alloc (.cells #[.bool xb, .int .i64 (xi : Int)] 100) := ⟨_, rfl⟩
            rw [← hw6] at HMX ⊢
            have hs6 : w6.heap.size = wo.heap.size + 1 := by rw [hw6]; simp
            clear hw6 x1 x2
            obtain ⟨x1, x2, _, _⟩ := HMX.out.2.1.at2
            have hbud : budOf B (st.ord.take (j + 1)) = budOf B (st.ord.take j) + (if xb then 0 else B.getD xi 0) := by rw [HMX.out.2.2.2, budOf_snoc]
            have htot : totOf st.pq (st.ord.take (j + 1)) = totOf st.pq (st.ord.take j) + (if xb then st.pq xi else 0) := by rw [HMX.out.2.2.2, totOf_snoc]
            obtain ⟨m1, m2, _, _⟩ := HMX.out.1.mkb.at2
            cases xb with
            | true =>
              simp only [if_true] at hbud htot hxr
              rw [H.out.1.hg] at hxr
              have hbal : w6.cell? ⟨bb, 0, none⟩ = some (.slice (some ⟨PB, 0, none⟩) k k) := by
                rw [HMX.out.1.kept.cell (p := ⟨bb, 0, none⟩) H.out.1.blt (by have := H.out.1.bd; have := H.out.1.bp; simp; omega)]
                exact H.out.1.bal
              obtain ⟨p1, p2⟩ := HMX.out.1.pri.read (psOf_get hxr (HR.out.2.1.isdon _ HMX.out.2.2.1))
              obtain ⟨t1, t2⟩ := HMX.out.1.tot.read (k := 0) rfl
              have hrb := HR.out.2.1.relB (by rw [H.out.1.hg]; exact hk3.2) HMX.out.2.2.1
              have htb2 := HR.out.2.1.totB (by rw [H.out.1.hg]; exact hk3.2) j
              have HPL := Lib.hid fun w' => mplus_sm (totOf st.pq (st.ord.take j)) (st.pq xi) w' ⟨by have := htb2.1; omega, by have := htb2.2.1; omega, by have := htb2.2.2; omega⟩ ⟨by have := hrb.1; omega, by have := hrb.2.1; omega, by have := hrb.2.2; omega⟩
              rw [← htot] at HPL
              rw [Int.add_zero] at hbud
              have HBUD := Lib.hid hbud
              obtain ⟨q, hq⟩ : ∃ q, q = st.pq xi := ⟨_, rfl⟩
              obtain ⟨s1, hs1⟩ : ∃ s, s = totOf st.pq (st.ord.take j) := ⟨_, rfl⟩
              obtain ⟨s2, hs2'⟩ : ∃ s, s = totOf st.pq (st.ord.take (j + 1)) := ⟨_, rfl⟩
              rw [← hq, ← hs1, ← hs2'] at HPL
              rw [← hq] at p1 p2
              simp only [← hs1] at t1 t2
              have HS2 := Lib.hid hs2'
              clear hq hs1 hs2' htot hbud hrb htb2
              have d1 : ∀ s : Desc w6, s.val.cell? ⟨bb, 0, none⟩ = some (.slice (some ⟨PB, 0, none⟩) k k) := fun s => s.cell hbal
              have d2 : ∀ s : Desc w6, s.val.cell? ⟨PB, xi * 2, none⟩ = some (.int .i64 q.num) := fun s => s.cell p1
              have d3 : ∀ s : Desc w6, s.val.cell? ⟨PB, xi * 2 + 1, none⟩ = some (.int .i64 (q.den : Int)) := fun s => s.cell p2
              have d4 : ∀ s : Desc w6, s.val.cell? ⟨w5.heap.size, 0, none⟩ = some (.int .i64 s1.num) := fun s => s.cell t1
              have d5 : ∀ s : Desc w6, s.val.cell? ⟨w5.heap.size, 1, none⟩ = some (.int .i64 (s1.den : Int)) := fun s => s.cell t2
              have d6 : ∀ s : Desc w6, s.val.cell? ⟨wo.heap.size, 1, none⟩ = some (.int .i64 (xi : Int)) := fun s => s.cell x2
              have HP6 : Hid (∀ s : Desc w6, Calls Try.prog 48 #[.agg #[.int .i64 s1.num, .int .i64 (s1.den : Int)], .agg #[.int .i64 q.num, .int .i64 (q.den : Int)]] s.val fun e w'' => e = .returned (.agg #[.int .i64 s2.num, .int .i64 (s2.den : Int)]) ∧ ∃ s' : Desc w6, w'' = s'.val) := Lib.hid fun s => Calls.desc_of (HPL.out _)
              clear hbal p1 p2 t1 t2
              go_wp2_with fail
              refine wp_region_desc_tail 10 (by kernel_rfl) (by kernel_rfl) ?_
              simp only [List.take_succ_cons, List.take_zero, List.drop_succ_cons, List.drop_zero]
              repeat (go_big_quiet_step (first | (go_at_call 48; exact HP6.out _)))
              refine wpQuiet_nil ?_
              rintro _ ⟨sd, rfl⟩
              have hb7 := sd.below
              generalize sd.val = w7 at hb7 ⊢
              clear d1 d2 d3 d4 d5 d6 x1 x2 m1 m2
              have hm7 := HMX.out.1.below hb7
              have hX7 := HMX.out.2.1.below hb7 HMX.out.2.1.lt
              have hT7 := hm7.tot
              obtain ⟨t1, t2⟩ := hT7.read (k := 0) rfl
              have t3 := hT7.frozen 0
              have t4 := hT7.frozen 1
              have H7 := Lib.hid (And.intro hm7 hX7)
              clear hm7 hX7 hb7 hT7
              go_wp2_with fail
              go_meet
              case rel =>
                obtain ⟨hm, hX⟩ := H7.out
                have hs7 := hm.kept.size
                refine ⟨by rw [HBUD.out], ?_, ?_⟩
                · exact hm.total (by omega) (by omega) (by omega) (by omega) (by omega) s2 HS2.out
                · exact (hX.far (by simp; omega) _).far (by simp; omega) _
            | false =>
              simp only [Bool.false_eq_true, if_false] at hbud htot hxr
              obtain ⟨aB, hAe, _, hcB⟩ := H.out.1.mkt.budgets.some_ (by rw [H.out.1.mkt.hB]; omega)
              obtain ⟨bx, hbx⟩ : ∃ b, B[xi]? = some b := ⟨_, List.getElem?_eq_getElem (by rw [H.out.1.mkt.hB]; exact hxr)⟩
              have hbg : B.getD xi 0 = bx := by rw [List.getD_eq_getElem?_getD, hbx]; rfl
              have hk0 : Below w0.heap.size w0 w6 := H.out.1.bel.trans (HMX.out.1.kept.mono (B' := w0.heap.size) (S' := []) H.out.1.bel.size (fun y hy => by have := H.out.1.p0; have := H.out.1.d0; simp at hy; omega)).below
              have c1 := (hk0.cell (lt_of_cell (hcB xi bx hbx))).trans (hcB xi bx hbx)
              have hbd1 := budOf_bd H.out.1.buds (st.ord.take j)
              have hbd2 := H.out.1.buds bx (List.mem_of_getElem? hbx)
              have hl6 : (st.ord.take j).length ≤ 6 := by rw [List.length_take]; omega
              subst hAe
              rw [hbg] at hbud
              obtain ⟨b1, hb1⟩ : ∃ b, b = budOf B (st.ord.take j) := ⟨_, rfl⟩
              rw [← hb1] at hbd1 hbud ⊢
              have hsum : b1 + bx = budOf B (st.ord.take (j + 1)) := hbud.symm
              obtain ⟨b2, hb2⟩ : ∃ b, b = budOf B (st.ord.take (j + 1)) := ⟨_, rfl⟩
              rw [← hb2] at hsum
              have HB2 := Lib.hid (And.intro hb2 htot)
              have H1 := H.out.1.mkt.hB
              have hb2r : 0 ≤ b2 ∧ b2 ≤ 200 := by omega
              clear hbud hb1 hb2 htot hbd1 hcB hk0 hbx hbg
              go_wp2_with fail
              go_meet
              case rel =>
                refine ⟨by rw [← HB2.out.1], ?_, HMX.out.2.1⟩
                obtain ⟨a1, a2, a3, a4, a5, a6, a7, a8⟩ := HMX.out.1
                exact ⟨a1, a2, a3, by rw [HB2.out.2, Rat.add_zero]; exact a4, a5, a6, a7, a8⟩
        case rest =>
          obtain ⟨rfl, hm, hX⟩ := hcut
          obtain ⟨wa, rfl⟩ : ∃ wa : World, wa = wc := ⟨_, rfl⟩
          have hwx : wo.heap.size < wa.heap.size := hX.lt
          obtain ⟨m1, m2, _, _⟩ := hm.mkb.at2
          have hbw0 : Below w0.heap.size w0 wa := H.out.1.bel.trans (hm.kept.mono (B' := w0.heap.size) (S' := []) H.out.1.bel.size (fun y hy => by have := H.out.1.p0; have := H.out.1.d0; simp at hy; omega)).below
          have HC := Lib.hid (And.intro hm (And.intro hX hbw0))
          have HGO : Hid (∀ s : Desc wa, Calls Try.prog 53 #[.agg #[.slice A n c, .slice U n d]] s.val fun e w'' => e = .returned (.int .i64 (k : Int)) ∧ ∃ s' : Desc wa, w'' = s'.val) := Lib.hid fun s => Calls.desc_of (by
            have := mgoods_any A n c U n d B V s.val (H.out.1.mkt.below (hbw0.trans (s.below.mono hbw0.size))) H.out.1.hn.1
            rw [H.out.1.hg] at this
            exact this)
          have d1 : ∀ s : Desc wa, s.val.cell? ⟨w.heap.size, 0, none⟩ = some (.slice A n c) := fun s => s.cell m1
          have d2 : ∀ s : Desc wa, s.val.cell? ⟨w.heap.size, 1, none⟩ = some (.slice U n d) := fun s => s.cell m2
          clear hm hX hbw0 m1 m2
          have hmaxb : max n k ≤ 3 ∧ n ≤ max n k ∧ k ≤ max n k := by have := H.out.1.hn; omega
          go_upto_region 13 with fail
          go_cut [82, 83] (fun mv cv wx => mv = .int .i64 ((max n k : Nat) : Int) ∧ cv = .int .i64 0 ∧ Below wa.heap.size wa wx)
          case first =>
            as_aux_lemma =>
              refine wp_region_desc (by kernel_rfl) (by kernel_rfl) ?_
              repeat (go_big_quiet_step (first | (go_at_call 53; exact HGO.out _)))
              refine wpQuiet_nil ?_
              rintro _ ⟨sd, rfl⟩
              have HB7 := Lib.hid sd.below
              generalize sd.val = w7 at HB7 ⊢
              clear d1 d2 hmaxb
              go_wp2_with fail
              all_goals
                go_meet
                case rel => exact ⟨by congr 1; omega, rfl, HB7.out⟩
          obtain ⟨rfl, rfl, hb7⟩ := hcut
          have hs7 := hb7.size
          have H7 := Lib.hid (And.intro (HC.out.1.below hb7) (HC.out.2.1.below hb7 hwx))
          clear hb7 HGO d1 d2
          go_wp2_with fail
          go_loopw [11, 83] (fun ov yv wr => ∃ (y : Nat) (st' : CSt) (A3 : Option Addr) (c3 : Nat), y ≤ max n k ∧ yv = .int .i64 y ∧ ov = .slice A3 st'.ord.length c3 ∧ visitTo V e n j st (xb, xi) y = some st' ∧ CInv V n first st' ∧ st'.ord[j]? = some (xb, xi) ∧ st'.ord.take (j + 1) = st.ord.take (j + 1) ∧ CMem w wr #[.slice A n c, .slice U n d] w5.heap.size (w.heap.size + 1 + 1) dm PB N0 k A3 c3 st' (j + 1) ∧ (∀ ad, A3 = some ad → ad.block ≠ wo.heap.size) ∧ Blk wr wo.heap.size 100 #[.bool xb, .int .i64 (xi : Int)]) (fun _ yv _ => max n k - (intOf yv).toNat)
          case atStart => exact ⟨0, st, some ⟨go, 0, none⟩, c2, Nat.zero_le _, rfl, rfl, rfl, HR.out.2.1, HX.out, rfl, H7.out.1, by intro ad he; injection he with he; rw [← he]; simp; omega, H7.out.2⟩
          case round =>
            obtain ⟨y, st', A3, c3, hy, rfl, rfl, hvis, hinv, hxj, htake, hmem, hne3, hXb⟩ := hrel
            obtain ⟨wq, rfl⟩ : ∃ wq : World, wq = wr := ⟨_, rfl⟩
            have hlen3 := hinv.len (by rw [H.out.1.hg]; exact hk3.2) H.out.1.hn.2
            have HQ := Lib.hid (And.intro hvis (And.intro hinv (And.intro htake (And.intro hmem (And.intro hne3 hXb)))))
            have HXJ := Lib.hid hxj
            clear hxj
            obtain ⟨x1, x2, _, _⟩ := hXb.at2
            have hxq : wo.heap.size < wq.heap.size := hXb.lt
            clear hvis hinv htake hmem hne3 hXb
            by_cases hym : y < max n k
            · have hyb : y < 3 := by omega
              go_upto_region 16 with fail
              go_cut [18, 19, 20] (fun nv iv gv wx => nv = .pointer (some ⟨wq.heap.size, 0, none⟩) ∧ iv = .int .i64 (xi : Int) ∧ gv = .int .i64 (y : Int) ∧ Below wq.heap.size wq wx ∧ Blk wx wq.heap.size 100 #[.bool (!xb), .int .i64 (y : Int)])
              case first =>
                as_aux_lemma =>
                  have hbz : Below wq.heap.size wq (wq.alloc (.cells #[.bool (!xb), .int .i64 (y : Int)] 100)) := (Below.refl _ _).alloc (Nat.le_refl _) _
                  have hZ : Blk (wq.alloc (.cells #[.bool (!xb), .int .i64 (y : Int)] 100)) wq.heap.size 100 #[.bool (!xb), .int .i64 (y : Int)] := Blk.new _ _ _ rfl
                  have HZ := Lib.hid (And.intro hbz hZ)
                  clear hbz hZ
                  go_region
                  go_wp2_with fail
                  go_meet
                  case rel => exact ⟨rfl, rfl, rfl, HZ.out.1.drew, HZ.out.2⟩
              obtain ⟨wz, rfl⟩ : ∃ wz : World, wz = wc := ⟨_, rfl⟩
              obtain ⟨rfl, rfl, rfl, hbz, hZ⟩ := hcut
              have hXz := HQ.out.2.2.2.2.2.below hbz HQ.out.2.2.2.2.2.lt
              have hmz := HQ.out.2.2.2.1.below hbz
              have hzs : wq.heap.size < wz.heap.size := hZ.lt
              clear x1 x2
              obtain ⟨x1, x2, _, _⟩ := hXz.at2
              have HZ := Lib.hid (And.intro hmz (And.intro hXz hZ))
              clear hbz hZ hXz hmz
              go_upto_if 95 with fail
              go_cut [19, 20] (fun iv gv wx => iv = .int .i64 ((buyerOf (xb, xi) y : Nat) : Int) ∧ gv = .int .i64 ((goodOf (xb, xi) y : Nat) : Int) ∧ Below wz.heap.size wz wx)
              case first =>
                as_aux_lemma =>
                  cases xb with
                  | true =>
                    go_wp2_with fail
                    go_region
                    go_wp2_with fail
                    go_meet
                    case rel => exact ⟨rfl, rfl, (Below.refl _ _).drew⟩
                  | false =>
                    go_wp2_with fail
                    go_meet
                    case rel => exact ⟨rfl, rfl, Below.refl _ _⟩
              obtain ⟨wy, rfl⟩ : ∃ wy : World, wy = wc := ⟨_, rfl⟩
              obtain ⟨rfl, rfl, hby⟩ := hcut
              have hxy := HZ.out.2.1.below hby HZ.out.2.1.lt
              have hzy := HZ.out.2.2.below hby HZ.out.2.2.lt
              have hmy := HZ.out.1.below hby
              have hys : wz.heap.size ≤ wy.heap.size := hby.size
              clear x1 x2
              obtain ⟨bi, hbi⟩ : ∃ bi, bi = buyerOf (xb, xi) y := ⟨_, rfl⟩
              obtain ⟨gi, hgi⟩ : ∃ gi, gi = goodOf (xb, xi) y := ⟨_, rfl⟩
              rw [← hbi, ← hgi]
              have HY := Lib.hid (And.intro hmy (And.intro hxy (And.intro hzy (And.intro hbi hgi))))
              clear hby hxy hzy hmy hbi hgi
              obtain ⟨⟨pb, pi⟩, hpar⟩ : ∃ x, x = st'.par (xb, xi) := ⟨_, rfl⟩
              obtain ⟨m1, m2, _, _⟩ := HY.out.1.mkb.at2
              obtain ⟨x1, x2, _, _⟩ := HY.out.2.1.at2
              obtain ⟨z1, z2, _, _⟩ := HY.out.2.2.1.at2
              have hbw0 : Below w0.heap.size w0 wy := H.out.1.bel.trans (HY.out.1.kept.mono (B' := w0.heap.size) (S' := []) H.out.1.bel.size (fun y hy => by have := H.out.1.p0; have := H.out.1.d0; simp at hy; omega)).below
              have hib : bi < 3 := by
                rw [HY.out.2.2.2.1]
                have := HMX.out
                have h1 := H.out.1.hn.2
                unfold buyerOf
                dsimp only
                have h2 := hxr
                rw [H.out.1.hg] at h2
                cases xb <;> simp at h2 ⊢ <;> omega
              have hgb : gi < 3 := by
                rw [HY.out.2.2.2.2]
                unfold goodOf
                dsimp only
                have h2 := hxr
                rw [H.out.1.hg] at h2
                cases xb <;> simp at h2 ⊢ <;> omega
              have HGO2 : Hid (∀ s : Desc wy, Calls Try.prog 53 #[.agg #[.slice A n c, .slice U n d]] s.val fun e w'' => e = .returned (.int .i64 (k : Int)) ∧ ∃ s' : Desc wy, w'' = s'.val) := Lib.hid fun s => Calls.desc_of (by
                have := mgoods_any A n c U n d B V s.val (H.out.1.mkt.below (hbw0.trans (s.below.mono hbw0.size))) H.out.1.hn.1
                rw [H.out.1.hg] at this
                exact this)
              obtain ⟨ebit, hebit⟩ : ∃ b, b = e.testBit (bi * k + gi) := ⟨_, rfl⟩
              have HHA : Hid (∀ s : Desc wy, Calls Try.prog 73 #[.agg #[.slice A n c, .slice U n d], .int .i64 (e : Int), .int .i64 (bi : Int), .int .i64 (gi : Int)] s.val fun e w'' => e = .returned (.bool ebit) ∧ ∃ s' : Desc wy, w'' = s'.val) := Lib.hid fun s => Calls.desc_of (by
                have := mhas_any A n c U n d B V e bi gi s.val (H.out.1.mkt.below (hbw0.trans (s.below.mono hbw0.size))) H.out.1.hn.1 H.out.2.2.2.2.2.2 hib hgb (by rw [H.out.1.hg]; exact hk3.2)
                rw [H.out.1.hg, ← hebit] at this
                exact this)
              have hxi3 : xi < 3 := by
                have h2 := hxr
                have := H.out.1.hn.2
                rw [H.out.1.hg] at h2
                cases xb <;> simp at h2 <;> omega
              have hskip : skipB V e n j st' (xb, xi) y = (decide (n ≤ bi) || (decide (k ≤ gi) || (!ebit || (decide ((!xb, y) = (pb, pi)) && decide (0 < j))))) := by
                unfold skipB
                rw [H.out.1.hg, ← HY.out.2.2.2.1, ← HY.out.2.2.2.2, ← hebit, ← hpar]
                rfl
              have HSK := Lib.hid hskip
              have d1 : ∀ s : Desc wy, s.val.cell? ⟨w.heap.size, 0, none⟩ = some (.slice A n c) := fun s => s.cell m1
              have d2 : ∀ s : Desc wy, s.val.cell? ⟨w.heap.size, 1, none⟩ = some (.slice U n d) := fun s => s.cell m2
              have d3 : ∀ s : Desc wy, s.val.cell? ⟨wo.heap.size, 0, none⟩ = some (.bool xb) := fun s => s.cell x1
              have d4 : ∀ s : Desc wy, s.val.cell? ⟨wo.heap.size, 1, none⟩ = some (.int .i64 (xi : Int)) := fun s => s.cell x2
              have d5 : ∀ s : Desc wy, s.val.cell? ⟨wq.heap.size, 0, none⟩ = some (.bool (!xb)) := fun s => s.cell z1
              have d6 : ∀ s : Desc wy, s.val.cell? ⟨wq.heap.size, 1, none⟩ = some (.int .i64 (y : Int)) := fun s => s.cell z2
              have d7 : ∀ s : Desc wy, (Instr.lookup 106 (.map (some (w.heap.size + 1 + 1))) (.agg #[.bool xb, .int .i64 (xi : Int)]) false).run Try.prog s.val = .ok (.agg #[.bool pb, .int .i64 (pi : Int)]) s.val := fun s => by
                have := (HY.out.1.parm.kept (s.below.block _ HY.out.1.parm.lt)).look (t := 106) Try.underlying106 (zero_node s.val) (c := xb) hxi3
                rw [← hpar] at this
                exact this
              have HPAR := Lib.hid hpar
              have HEB := Lib.hid hebit
              clear hpar m1 m2 z1 z2 hbw0 hskip hebit x1 x2
              go_upto_region 19 with fail
              go_cut [128] (fun cv wx => cv = .bool (skipB V e n j st' (xb, xi) y) ∧ Below wy.heap.size wy wx)
              case first =>
                as_aux_lemma =>
                  by_cases c1 : n ≤ bi
                  · have b1 : decide (n ≤ bi) = true := decide_eq_true c1
                    refine wp_region_desc (by kernel_rfl) (by kernel_rfl) ?_
                    repeat (go_big_quiet_step (first | (go_at_call 53; exact HGO2.out _) | (go_at_call 73; exact HHA.out _)))
                    refine wpQuiet_nil ?_
                    rintro _ ⟨sd, rfl⟩
                    have HB8 := Lib.hid sd.below
                    generalize sd.val = wv at HB8 ⊢
                    clear d1 d2 d3 d4 d5 d6 d7
                    go_wp2_with fail
                    go_meet
                    case rel => exact ⟨congrArg Value.bool (by have h := HSK.out; rw [b1] at h; exact h.symm), HB8.out⟩
                  · have b1 : decide (n ≤ bi) = false := decide_eq_false c1
                    by_cases c2 : k ≤ gi
                    · have b2 : decide (k ≤ gi) = true := decide_eq_true c2
                      refine wp_region_desc (by kernel_rfl) (by kernel_rfl) ?_
                      repeat (go_big_quiet_step (first | (go_at_call 53; exact HGO2.out _) | (go_at_call 73; exact HHA.out _)))
                      refine wpQuiet_nil ?_
                      rintro _ ⟨sd, rfl⟩
                      have HB8 := Lib.hid sd.below
                      generalize sd.val = wv at HB8 ⊢
                      clear d1 d2 d3 d4 d5 d6 d7
                      go_wp2_with fail
                      go_meet
                      case rel => exact ⟨congrArg Value.bool (by have h := HSK.out; rw [b1, b2] at h; exact h.symm), HB8.out⟩
                    · have b2 : decide (k ≤ gi) = false := decide_eq_false c2
                      cases ebit with
                      | false =>
                        refine wp_region_desc (by kernel_rfl) (by kernel_rfl) ?_
                        repeat (go_big_quiet_step (first | (go_at_call 53; exact HGO2.out _) | (go_at_call 73; exact HHA.out _)))
                        refine wpQuiet_nil ?_
                        rintro _ ⟨sd, rfl⟩
                        have HB8 := Lib.hid sd.below
                        generalize sd.val = wv at HB8 ⊢
                        clear d1 d2 d3 d4 d5 d6 d7
                        go_wp2_with fail
                        go_meet
                        case rel => exact ⟨congrArg Value.bool (by have h := HSK.out; rw [b1, b2] at h; exact h.symm), HB8.out⟩
                      | true =>
                        have hrq := run_eq_node (!xb) pb y pi
                        by_cases c3 : (!xb, y) = (pb, pi)
                        · have b3 : decide ((!xb, y) = (pb, pi)) = true := decide_eq_true c3
                          rw [b3] at hrq
                          by_cases c4 : 0 < j
                          · have b4 : decide (0 < j) = true := decide_eq_true c4
                            clear c3
                            refine wp_region_desc (by kernel_rfl) (by kernel_rfl) ?_
                            repeat (go_big_quiet_step (first | (go_at_call 53; exact HGO2.out _) | (go_at_call 73; exact HHA.out _)))
                            refine wpQuiet_nil ?_
                            rintro _ ⟨sd, rfl⟩
                            have HB8 := Lib.hid sd.below
                            generalize sd.val = wv at HB8 ⊢
                            clear d1 d2 d3 d4 d5 d6 d7
                            go_wp2_with fail
                            go_meet
                            case rel => exact ⟨congrArg Value.bool (by have h := HSK.out; rw [b1, b2, b3, b4] at h; exact h.symm), HB8.out⟩
                          · have b4 : decide (0 < j) = false := decide_eq_false c4
                            clear c3
                            refine wp_region_desc (by kernel_rfl) (by kernel_rfl) ?_
                            repeat (go_big_quiet_step (first | (go_at_call 53; exact HGO2.out _) | (go_at_call 73; exact HHA.out _)))
                            refine wpQuiet_nil ?_
                            rintro _ ⟨sd, rfl⟩
                            have HB8 := Lib.hid sd.below
                            generalize sd.val = wv at HB8 ⊢
                            clear d1 d2 d3 d4 d5 d6 d7
                            go_wp2_with fail
                            go_meet
                            case rel => exact ⟨congrArg Value.bool (by have h := HSK.out; rw [b1, b2, b3, b4] at h; exact h.symm), HB8.out⟩
                        · have b3 : decide ((!xb, y) = (pb, pi)) = false := decide_eq_false c3
                          rw [b3] at hrq
                          clear c3
                          refine wp_region_desc (by kernel_rfl) (by kernel_rfl) ?_
                          repeat (go_big_quiet_step (first | (go_at_call 53; exact HGO2.out _) | (go_at_call 73; exact HHA.out _)))
                          refine wpQuiet_nil ?_
                          rintro _ ⟨sd, rfl⟩
                          have HB8 := Lib.hid sd.below
                          generalize sd.val = wv at HB8 ⊢
                          clear d1 d2 d3 d4 d5 d6 d7
                          go_wp2_with fail
                          go_meet
                          case rel => exact ⟨congrArg Value.bool (by have h := HSK.out; rw [b1, b2, b3] at h; exact h.symm), HB8.out⟩
              obtain ⟨wv, rfl⟩ : ∃ wv : World, wv = wc := ⟨_, rfl⟩
              obtain ⟨rfl, hbv⟩ := hcut
              have hmv := HY.out.1.below hbv
              have hXv := HY.out.2.1.below hbv HY.out.2.1.lt
              have hZv := HY.out.2.2.1.below hbv HY.out.2.2.1.lt
              have hvs := hbv.size
              have HV := Lib.hid (And.intro hmv (And.intro hXv hZv))
              clear hbv hmv hXv hZv HGO2 HHA d1 d2 d3 d4 d5 d6 d7
              cases hsk : skipB V e n j st' (xb, xi) y with
              | true =>
                as_aux_lemma =>
                  have HN : Hid (visitTo V e n j st (xb, xi) (y + 1) = some st') := Lib.hid (by simp only [visitTo, HQ.out.1, Option.bind_some, visit, hsk, if_true])
                  clear hsk
                  go_wp2_with fail
                  go_roundw
                  case rel =>
                    exact ⟨y + 1, st', A3, c3, by omega, by go_num, rfl, HN.out, HQ.out.2.1, HXJ.out, HQ.out.2.2.1, HV.out.1, HQ.out.2.2.2.2.1, HV.out.2.1⟩
                  case measure => simp [intOf]; omega
              | false =>
                have hskp := HSK.out
                rw [hsk] at hskp
                have hbn : bi < n := by
                  rcases Nat.lt_or_ge bi n with h | h
                  · exact h
                  · rw [decide_eq_true h] at hskp; cases hskp
                have hgk : gi < k := by
                  rcases Nat.lt_or_ge gi k with h | h
                  · exact h
                  · rw [decide_eq_true h, Bool.true_or, Bool.or_true] at hskp; cases hskp
                obtain ⟨aU, hUe, _, hcU⟩ := H.out.1.mkt.uses.some_ (by rw [H.out.1.mkt.hV]; omega)
                have hVb := rowV_some (V := V) (i := bi) (by rw [H.out.1.mkt.hV]; exact hbn)
                obtain ⟨RU, cr, u1, _, _, hR⟩ := hcU bi _ hVb
                have hrl : (rowV V bi).length = k := (rowOk_iff.1 (H.out.1.rows _ (List.mem_of_getElem? hVb))).1
                rw [hrl] at u1
                obtain ⟨ar, hRe, _, hcR⟩ := hR.some_ (by rw [hrl]; omega)
                have hug : (rowV V bi)[gi]? = some (useN V bi gi) := by unfold useN; rw [List.getD_eq_getElem?_getD, List.getElem?_eq_getElem (by rw [hrl]; exact hgk)]; rfl
                have u2 := hcR gi _ hug
                have hbwv : Below w0.heap.size w0 wv := H.out.1.bel.trans (HV.out.1.kept.mono (B' := w0.heap.size) (S' := []) H.out.1.bel.size (fun y hy => by have := H.out.1.p0; have := H.out.1.d0; simp at hy; omega)).below
                have v1 := (hbwv.cell (lt_of_cell u1)).trans u1
                have v2 := (hbwv.cell (lt_of_cell u2)).trans u2
                have hur := rowOk_getD (H.out.1.rows _ (List.mem_of_getElem? hVb)) gi
                rw [show (rowV V bi).getD gi 0 = useN V bi gi from rfl] at hur
                obtain ⟨ug, hueq⟩ : ∃ u, u = useN V bi gi := ⟨_, rfl⟩
                rw [← hueq] at v2 hur
                have hdl := HV.out.1.donm.look (t := 98) Try.underlying98 (zero_bool wv) (c := !xb) hyb
                obtain ⟨m1, m2, _, _⟩ := HV.out.1.mkb.at2
                obtain ⟨x1, x2, _, _⟩ := HV.out.2.1.at2
                obtain ⟨z1, z2, _, _⟩ := HV.out.2.2.at2
                have HSKF := Lib.hid hsk
                have HU := Lib.hid (And.intro hueq hrl)
                subst hUe
                subst hRe
                clear hskp hsk hcU hR hcR u1 u2 hbwv hVb hug hueq
                cases hdn : st'.don (!xb, y) with
                | true =>
                  as_aux_lemma =>
                    have HNN : Hid (compB B V e n k first don pq sp = none) := Lib.hid (compB_none sp HR.out.1 HX.out (y := y + 1) (by
                      have e1 : st'.don (nextOf (xb, xi) y) = true := hdn
                      simp only [visitTo, HQ.out.1, Option.bind_some, visit, HSKF.out, e1, Bool.true_or, Bool.false_eq_true, if_false, if_true]) (by omega) (by omega))
                    rw [hdn] at hdl
                    clear hdn
                    go_wp2_with fail
                    go_ret
                    exact CompPost.no HV.out.1.kept HNN.out
                | false =>
                  rw [hdn] at hdl
                  by_cases hu0 : ug = 0
                  · as_aux_lemma =>
                      have HNN : Hid (compB B V e n k first don pq sp = none) := Lib.hid (compB_none sp HR.out.1 HX.out (y := y + 1) (by
                        have e2 : decide (useN V (buyerOf (xb, xi) y) (goodOf (xb, xi) y) = 0) = true := decide_eq_true (by rw [← HY.out.2.2.2.1, ← HY.out.2.2.2.2, ← HU.out.1]; exact hu0)
                        simp only [visitTo, HQ.out.1, Option.bind_some, visit, HSKF.out, e2, Bool.or_true, Bool.false_eq_true, if_false, if_true]) (by omega) (by omega))
                      subst hu0
                      clear hdn
                      go_wp2_with fail
                      go_ret
                      exact CompPost.no HV.out.1.kept HNN.out
                  · have hdw : dm < w.heap.size := H.out.1.donm.lt
                    have hpw : PB < w.heap.size := H.out.1.pri.lt
                    have hpd : w.heap.size + 1 + 1 ≠ dm := by omega
                    obtain ⟨w1m, w2m, r1, r2, K1, K2, P2, D2⟩ := HV.out.1.mark hpd H.out.1.hN hlen3 (!xb) y hyb (xb, xi)
                    have hzv : wq.heap.size < wv.heap.size := by omega
                    have hov : wo.heap.size < wv.heap.size := by omega
                    have z1' := (K1.cell (p := ⟨wq.heap.size, 0, none⟩) hzv (by simp; omega)).trans z1
                    have z2' := (K1.cell (p := ⟨wq.heap.size, 1, none⟩) hzv (by simp; omega)).trans z2
                    have x1' := (K1.cell (p := ⟨wo.heap.size, 0, none⟩) hov (by simp; omega)).trans x1
                    have x2' := (K1.cell (p := ⟨wo.heap.size, 1, none⟩) hov (by simp; omega)).trans x2
                    have z1'' := (K2.cell (p := ⟨wq.heap.size, 0, none⟩) hzv (by simp; omega)).trans z1
                    have z2'' := (K2.cell (p := ⟨wq.heap.size, 1, none⟩) hzv (by simp; omega)).trans z2
                    have hlo : 0 < st'.ord.length := by have := (List.getElem?_eq_some_iff.1 HXJ.out).1; omega
                    have hownb : ∀ ad, A3 = some ad → w.heap.size ≤ ad.block := by
                      obtain ⟨g3, e3, e4, _⟩ := own_someN HV.out.1.own hlo
                      intro ad he
                      rw [e3] at he
                      injection he with he
                      rw [← he]
                      exact e4
                    have hown2 := own_same (w' := w2m) HV.out.1.own (fun ad he hb => K2.block _ hb (by have := hownb ad he; have := (HV.out.1.ne ad he).2.2; simp; omega))
                    have hs2m := K2.size
                    have HM2 := Lib.hid (And.intro K2 (And.intro P2 (And.intro D2 (And.intro hown2 (And.intro hownb hu0)))))
                    have HDN := Lib.hid hdn
                    have hbase : w.heap.size ≤ w2m.heap.size := by omega
                    dsimp only at r2
                    clear K1 K2 P2 D2 hown2 hownb hdn
                    go_wp2_with (at_builtin; refine app1s sty_nodes rfl _ _ rfl w.heap.size A3 st'.ord.length c3 _ #[.bool (!xb), .int .i64 (y : Int)] rfl (by simp [Value.oneCell']) rfl HM2.out.2.2.2.1 _ rfl (by rfl) (by omega) hbase ?_)
                    intro A4 k4 w4 hown4 hg4 hbl4 hk41 hk42 hst4
                    obtain ⟨hblk, hA4, hpri⟩ := HV.out.1.grow hpd HM2.out.1 hdw hpw (by omega) (by omega) (by omega) (by omega) H.out.1.dp HM2.out.2.1 HM2.out.2.2.1 (nx := (!xb, y)) (x := (xb, xi)) hown4 hg4 hst4 hlo
                    have hX4 := hblk _ _ _ HV.out.2.1 (by omega) (by omega) HQ.out.2.2.2.2.1
                    have hA4o := hA4 _ hov HQ.out.2.2.2.2.1
                    have hk4 : Kept w.heap.size [dm, PB] w w4 := (HV.out.1.kept.trans (HM2.out.1.mono (B' := w.heap.size) (S' := [dm, PB]) (by omega) (fun z hz => by simp at hz; rcases hz with rfl | rfl; exact .inl (by simp); exact .inr (by omega)))).grown hg4 hbase (fun q hq => .inr (by
                      cases A3 with
                      | none => cases hq
                      | some ad => injection hq with hq; rw [← hq]; exact HM2.out.2.2.2.2.1 ad rfl))
                    have hcinv := HQ.out.2.1.step (useN_bd H.out.1.rows) HXJ.out (y := y) (by rw [← HY.out.2.2.2.1]; exact hbn) (by rw [← HY.out.2.2.2.2, H.out.1.hg]; exact hgk) HDN.out (by rw [← HY.out.2.2.2.1, ← HY.out.2.2.2.2, ← HU.out.1]; exact HM2.out.2.2.2.2.2)
                    have hvn : visitTo V e n j st (xb, xi) (y + 1) = some (stepC V st' (xb, xi) y) := by
                      have e1 : st'.don (nextOf (xb, xi) y) = false := HDN.out
                      have e2 : decide (useN V (buyerOf (xb, xi) y) (goodOf (xb, xi) y) = 0) = false := decide_eq_false (by rw [← HY.out.2.2.2.1, ← HY.out.2.2.2.2, ← HU.out.1]; exact HM2.out.2.2.2.2.2)
                      simp only [visitTo, HQ.out.1, Option.bind_some, visit, HSKF.out, e1, e2, Bool.or_self, Bool.false_eq_true, if_false]
                    have hjl : j + 1 ≤ st'.ord.length := by have := (List.getElem?_eq_some_iff.1 HXJ.out).1; omega
                    have htk1 : (st'.ord ++ [((!xb, y) : Nd)]).take (j + 1) = st'.ord.take (j + 1) := List.take_append_of_le_length hjl
                    have hxj4 : (st'.ord ++ [((!xb, y) : Nd)])[j]? = some (xb, xi) := by rw [List.getElem?_append_left (by omega)]; exact HXJ.out
                    have hsl : (Value.slice A4 (st'.ord.length + 1) k4) = Value.slice A4 (stepC V st' (xb, xi) y).ord.length k4 := by rw [show (stepC V st' (xb, xi) y).ord.length = st'.ord.length + 1 by simp [stepC]]
                    have H4 := Lib.hid (And.intro hpri (And.intro hX4 (And.intro hA4o (And.intro hk4 (And.intro hcinv (And.intro hvn (And.intro htk1 (And.intro hxj4 (And.intro hsl hblk)))))))))
                    have hZ4 := hblk _ _ _ HV.out.2.2 (by omega) (by omega) (by
                      obtain ⟨g3, e3, _, e4, _⟩ := own_someN HQ.out.2.2.2.1.own hlo
                      intro ad he
                      rw [e3] at he
                      injection he with he
                      rw [← he]
                      simp
                      omega)
                    have hP4 : MapN w4 (w.heap.size + 1 + 1) (st'.ord.length + 1) (.agg #[.bool false, .int .i64 0]) (fun z => nodeV (upd st'.par (!xb, y) (xb, xi) z)) := HM2.out.2.1.kept (hg4.block _ HM2.out.2.1.lt (by
                      cases A3 with
                      | none => intro e; cases e
                      | some ad => intro e; injection e with e; exact (HV.out.1.ne ad rfl).2.2 e.symm))
                    have HZ4 := Lib.hid (And.intro hZ4 hP4)
                    obtain ⟨z1, z2, _, _⟩ := hZ4.at2
                    have hs4g := hg4.size
                    have hZl := hZ4.lt
                    have hX4l := hX4.lt
                    clear hpri hX4 hA4o hk4 hcinv hvn htk1 hxj4 hsl hblk hA4 r1 r2 z1' z2' x1' x2' z1'' z2'' hg4 hst4 hown4 hZ4 hP4
                    cases xb with
                    | true =>
                      as_aux_lemma =>
                        go_wp2_with fail
                        go_roundw
                        case rel =>
                          obtain ⟨hpri, hX4, hA4o, hk4, hcinv, hvn, htk1, hxj4, hsl, hblk⟩ := H4.out
                          have hp := hpri st'.pq (by rw [htk1])
                          exact ⟨y + 1, stepC V st' (true, xi) y, A4, k4, by omega, by go_num, hsl, hvn, hcinv, hxj4, htk1.trans HQ.out.2.2.1, hp.2 w4 (fun _ _ _ => rfl) (by rw [show ((!true, y) : Nd) = (false, y) from rfl, psOf_buyer]; exact hp.1) hk4, hA4o, hX4⟩
                        case measure => simp [intOf]; omega
                    | false =>
                      have hj0 : 0 < j := by
                        rcases Nat.eq_zero_or_pos j with h | h
                        · exfalso
                          have h1 := HXJ.out
                          rw [h, HQ.out.2.1.hd] at h1
                          cases h1
                        · exact h
                      obtain ⟨⟨i0, hi0, hi1⟩, hp1, hp2⟩ := HQ.out.2.1.par j _ HXJ.out hj0
                      rw [← HPAR.out] at hi1 hp1 hp2
                      simp only [Bool.false_eq_true, if_false, Bool.not_false] at hp1 hp2
                      subst hp1
                      have hpm : (true, pi) ∈ st'.ord := List.mem_of_getElem? hi1
                      have hpk : pi < k := by have := HQ.out.2.1.rng _ hpm; simp only [if_true] at this; rw [H.out.1.hg] at this; exact this
                      have hrb := HQ.out.2.1.relB (by rw [H.out.1.hg]; exact hk3.2) hpm
                      have hl4 := HZ4.out.2.look (t := 106) Try.underlying106 (zero_node w4) (c := false) hxi3
                      rw [show upd st'.par (!false, y) (false, xi) (false, xi) = (true, pi) by rw [upd_other _ _ _ (by intro e; cases e), ← HPAR.out]] at hl4
                      obtain ⟨x1', x2', _, _⟩ := H4.out.2.1.at2
                      have hHP := Lib.hid (And.intro hpm (And.intro hp2 (And.intro hrb hpk)))
                      unfold nodeV at hl4
                      dsimp only at hl4
                      clear hi1 hp2 hpm hrb x1 x2
                      go_wp2_with fail
                      have hbi : bi = xi := HY.out.2.2.2.1
                      have hgi : gi = y := HY.out.2.2.2.2
                      subst hbi
                      subst hgi
                      obtain ⟨w6, hw6⟩ : ∃ w6, w6 = w4.alloc (.cells #[.bool true, .int .i64 (pi : Int)] 100) := ⟨_, rfl⟩
                      have hb6 : Below w4.heap.size w4 w6 := by rw [hw6]; exact (Below.refl _ _).alloc (Nat.le_refl _) _
                      have hF6 : Blk w6 w4.heap.size 100 #[.bool true, .int .i64 (pi : Int)] := by rw [hw6]; exact Blk.new _ _ _ rfl
                      rw [← hw6]
                      have hk6 : Kept w.heap.size [dm, PB] w w6 := H4.out.2.2.2.1.trans (Kept.of_below (hb6.mono H4.out.2.2.2.1.size) _)
                      have hbal : w6.cell? ⟨bb, 0, none⟩ = some (.slice (some ⟨PB, 0, none⟩) k k) := by
                        rw [hk6.cell (p := ⟨bb, 0, none⟩) H.out.1.blt (by have := H.out.1.bd; have := H.out.1.bp; simp; omega)]
                        exact H.out.1.bal
                      have hpr4 := (H4.out.1 (upd st'.pq gi (relP V st' (false, bi) gi)) (by
                        rw [H4.out.2.2.2.2.2.2.1]
                        refine totOf_congr fun z hz hz1 => upd_other _ _ _ fun e => ?_
                        have hzo : z ∈ st'.ord := List.mem_of_mem_take hz
                        have hze : z = (true, gi) := Prod.ext hz1 e
                        rw [hze] at hzo
                        have := HQ.out.2.1.isdon _ hzo
                        rw [show ((true, gi) : Nd) = (!false, gi) from rfl, HDN.out] at this
                        cases this))
                      have hP6 := hpr4.1.below hb6 hpr4.1.lt
                      have hPl6 := hpr4.1.lt
                      obtain ⟨p1, p2⟩ := hP6.read (psOf_get hHP.out.2.2.2 (HQ.out.2.1.isdon _ hHP.out.1))
                      obtain ⟨f1, f2, _, _⟩ := hF6.at2
                      have hw0b : Below w0.heap.size w0 w6 := H.out.1.bel.trans (hk6.mono (B' := w0.heap.size) (S' := []) H.out.1.bel.size (fun y hy => by have := H.out.1.p0; have := H.out.1.d0; simp at hy; omega)).below
                      have H6' := Lib.hid (And.intro hb6 (And.intro hpr4 (And.intro hP6 (And.intro hk6 hw0b))))
                      obtain ⟨aU2, hU2, _, hcU⟩ := H.out.1.mkt.uses.some_ (by rw [H.out.1.mkt.hV]; omega)
                      injection hU2 with hU2
                      subst hU2
                      have hVb := rowV_some (V := V) (i := bi) (by rw [H.out.1.mkt.hV]; exact hbn)
                      obtain ⟨R2, cr2, u1, _, _, hR⟩ := hcU bi _ hVb
                      rw [HU.out.2] at u1
                      obtain ⟨ar2, hRe2, _, hcR⟩ := hR.some_ (by rw [HU.out.2]; omega)
                      subst hRe2
                      have hget : ∀ g, g < k → (rowV V bi)[g]? = some (useN V bi g) := fun g hg => by unfold useN; rw [List.getD_eq_getElem?_getD, List.getElem?_eq_getElem (by rw [HU.out.2]; exact hg)]; rfl
                      have u2 := hcR gi _ (hget gi hgk)
                      have hpik := hHP.out.2.2.2
                      have u3 := hcR pi _ (hget pi hpik)
                      rw [← HU.out.1] at u2
                      have hupb := useN_bd H.out.1.rows bi pi
                      have hup0 := hHP.out.2.1
                      obtain ⟨up, hup⟩ : ∃ u, u = useN V bi pi := ⟨_, rfl⟩
                      rw [← hup] at u3 hupb hup0
                      have c1 := (hw0b.cell (lt_of_cell u1)).trans u1
                      have c2' := (hw0b.cell (lt_of_cell u2)).trans u2
                      have c3' := (hw0b.cell (lt_of_cell u3)).trans u3
                      have hmk4 := H4.out.2.2.2.2.2.2.2.2.2 _ _ _ HV.out.1.mkb (by omega) (by omega) (fun ad he => (HV.out.1.ne ad he).1)
                      obtain ⟨m1', m2', _, _⟩ := (hmk4.below hb6 hmk4.lt).at2
                      obtain ⟨pp, hpp⟩ : ∃ p, p = st'.pq pi := ⟨_, rfl⟩
                      rw [← hpp] at p1 p2
                      have hrb := hHP.out.2.2.1
                      rw [← hpp] at hrb
                      obtain ⟨pv, hpv⟩ : ∃ p, p = relP V st' (false, bi) gi := ⟨_, rfl⟩
                      have hpv2 : pp * Rat.divInt ug up = pv := by
                        rw [hpv, hpp, HU.out.1, hup]
                        unfold relP
                        rw [← HPAR.out, Rat.divInt_eq_div]
                      have hfb := frac_bd (q := Rat.divInt ug up) (a := ug) (b := up) hup0 (Rat.divInt_eq_div ug up)
                      have hfn := frac_nn (q := Rat.divInt ug up) (a := ug) (b := up) hup0 hur.1 (Rat.divInt_eq_div ug up)
                      have HTM : Hid (∀ s : Desc w6, Calls Try.prog 49 #[.agg #[.int .i64 pp.num, .int .i64 (pp.den : Int)], .agg #[.int .i64 (lowN ug up), .int .i64 (lowD ug up)]] s.val fun e w'' => e = .returned (.agg #[.int .i64 pv.num, .int .i64 (pv.den : Int)]) ∧ ∃ s' : Desc w6, w'' = s'.val) := Lib.hid fun s => Calls.desc_of (by
                        rw [← hpv2]
                        exact mtimes_sm pp (Rat.divInt ug up) s.val ⟨by have := hrb.1; omega, by have := hrb.2.1; omega, by have := hrb.2.2; omega⟩ ⟨by omega, by omega, by omega⟩ hfn)
                      have HLO : Hid (∀ s : Desc w6, Calls Try.prog 65 #[.agg #[.int .i64 ug, .int .i64 up]] s.val fun e w'' => e = .returned (.agg #[.int .i64 (lowN ug up), .int .i64 (lowD ug up)]) ∧ ∃ s' : Desc w6, w'' = s'.val) := Lib.hid fun s => Calls.desc_of (mlowest_low ug up s.val ⟨by omega, by omega, hup0, by omega⟩)
                      have d1 : ∀ s : Desc w6, s.val.cell? ⟨w.heap.size, 1, none⟩ = some (.slice (some aU) n d) := fun s => s.cell m2'
                      have d2 : ∀ s : Desc w6, s.val.cell? ⟨bb, 0, none⟩ = some (.slice (some ⟨PB, 0, none⟩) k k) := fun s => s.cell hbal
                      have d3 : ∀ s : Desc w6, s.val.cell? ⟨PB, pi * 2, none⟩ = some (.int .i64 pp.num) := fun s => s.cell p1
                      have d4 : ∀ s : Desc w6, s.val.cell? ⟨PB, pi * 2 + 1, none⟩ = some (.int .i64 (pp.den : Int)) := fun s => s.cell p2
                      have d5 : ∀ s : Desc w6, s.val.cell? ⟨w4.heap.size, 1, none⟩ = some (.int .i64 (pi : Int)) := fun s => s.cell f2
                      have d6 : ∀ s : Desc w6, s.val.cell? (aU.add bi) = some (.slice (some ar2) k cr2) := fun s => s.cell c1
                      have d7 : ∀ s : Desc w6, s.val.cell? (ar2.add gi) = some (.int .i64 ug) := fun s => s.cell c2'
                      have d8 : ∀ s : Desc w6, s.val.cell? (ar2.add pi) = some (.int .i64 up) := fun s => s.cell c3'
                      have HPV := Lib.hid hpv
                      clear hbal p1 p2 f1 f2 c1 c2' c3' m1' m2' u1 u2 u3 hcU hR hcR hget hVb hpv hpv2 hpp hup hfb hfn hrb hmk4 hb6 hpr4 hP6 hk6 hw0b hF6 x1' x2' z1 z2 hl4 hw6
                      refine wp_region_desc_tail 34 (by kernel_rfl) (by kernel_rfl) ?_
                      simp only [List.take_succ_cons, List.take_zero, List.drop_succ_cons, List.drop_zero]
                      repeat (go_big_quiet_step (first | (go_at_call 65; exact HLO.out _) | (go_at_call 49; exact HTM.out _)))
                      refine wpQuiet_nil ?_
                      rintro _ ⟨sd, rfl⟩
                      have hb7 := sd.below
                      generalize sd.val = w7 at hb7 ⊢
                      clear d1 d2 d3 d4 d5 d6 d7 d8
                      have hP7 := H6'.out.2.2.1.below hb7 H6'.out.2.2.1.lt
                      obtain ⟨⟨qa, qb⟩, hq⟩ : ∃ x, (psOf k st'.don st'.pq)[gi]? = some x := ⟨_, List.getElem?_eq_getElem (by simp [psOf]; omega)⟩
                      obtain ⟨r1, r2⟩ := hP7.read hq
                      have r3 := hP7.frozen (gi * 2)
                      have r4 := hP7.frozen (gi * 2 + 1)
                      have H7' := Lib.hid (And.intro hb7 hP7)
                      clear hb7 hP7 hq
                      go_wp2_with fail
                      go_roundw
                      case rel =>
                        obtain ⟨_, hX4, hA4o, hk4, hcinv, hvn, htk1, hxj4, hsl, _⟩ := H4.out
                        obtain ⟨hb6, hpr4, hP6, hk6, _⟩ := H6'.out
                        obtain ⟨hb7, hP7⟩ := H7'.out
                        have hs6 := hb6.size
                        have hP8 := hP7.set_ gi pv.num pv.den
                        rw [psOf_set, HPV.out] at hP8
                        rw [HPV.out]
                        refine ⟨gi + 1, stepC V st' (false, bi) gi, A4, k4, by omega, by go_num, hsl, hvn, hcinv, hxj4, htk1.trans HQ.out.2.2.1, hpr4.2 _ (fun g hg hne => ?_) hP8 ?_, hA4o, ?_⟩
                        · exact (Below.heap_setCell _ ⟨PB, gi * 2 + 1, none⟩ _ g hne).trans ((Below.heap_setCell _ ⟨PB, gi * 2, none⟩ _ g hne).trans ((hb7.block g (by omega)).trans (hb6.block g hg)))
                        · exact ((hk6.trans (Kept.of_below (hb7.mono hk6.size) _)).setCell (.inl (by simp)) _).setCell (.inl (by simp)) _
                        · exact (((hX4.below hb6 hX4.lt).below hb7 (by omega)).far (by simp; omega) _).far (by simp; omega) _
                      case measure => simp [intOf]; omega
            · obtain rfl : y = max n k := by omega
              have HN : Hid (srchTo V e n (max n k) (start0 don pq first) (j + 1) = some st') := Lib.hid (by
                simp only [srchTo, HR.out.1, Option.bind_some, HX.out]
                exact HQ.out.1)
              have hjl := (List.getElem?_eq_some_iff.1 HXJ.out).1
              rw [← HQ.out.2.2.1]
              go_wp2_with fail
              go_roundw
              case rel => exact ⟨j + 1, st', A3, c3, by omega, by go_num, rfl, rfl, HN.out, HQ.out.2.1, HQ.out.2.2.2.1⟩
              case measure => simp [intOf]; omega
    · obtain rfl : j = st.ord.length := by omega
      rw [List.take_length]
      have HF : Hid (compF V e n k first don pq = some st) := Lib.hid (compF_some HR.out.1 (Nat.le_refl _) hlen)
      have hbb := budOf_bd H.out.1.buds st.ord
      by_cases hb0 : budOf B st.ord = 0
      · as_aux_lemma =>
          have HNN : Hid (compB B V e n k first don pq sp = none) := Lib.hid (compB_poor sp HF.out hb0)
          rw [hb0]
          clear hb0 hbb
          go_wp2_with fail
          go_ret
          exact CompPost.no HR.out.2.2.kept HNN.out
      · have hfin := HR.out.2.1.fin (B := B) (by rw [H.out.1.hg]; exact hk3.2) ⟨by omega, by omega⟩ H.out.1.buds
        have hltot := HR.out.2.2.tot
        rw [List.take_length] at hltot
        obtain ⟨t1, t2⟩ := hltot.read (k := 0) rfl
        have htb3 := HR.out.2.1.totB (by rw [H.out.1.hg]; exact hk3.2) st.ord.length
        rw [List.take_length] at htb3
        obtain ⟨bq, hbq⟩ : ∃ b, b = budOf B st.ord := ⟨_, rfl⟩
        obtain ⟨tq, htq⟩ : ∃ q, q = totOf st.pq st.ord := ⟨_, rfl⟩
        obtain ⟨fq, hfq⟩ : ∃ q, q = facOf B st := ⟨_, rfl⟩
        have hdv : ((bq : Int) : Rat) / tq = fq := by rw [hbq, htq, hfq]; rfl
        rw [← hbq] at hbb hb0 ⊢
        simp only [← htq] at t1 t2
        rw [← htq] at htb3
        have hfin1 := hfin.1
        rw [← htq] at hfin1
        have HOV : Hid (∀ w', Calls Try.prog 50 #[.agg #[.int .i64 bq, .int .i64 1], .agg #[.int .i64 tq.num, .int .i64 (tq.den : Int)]] w' fun e w'' => e = .returned (.agg #[.int .i64 fq.num, .int .i64 (fq.den : Int)]) ∧ Below w'.heap.size w' w'') := Lib.hid fun w' => by
          have := mover_sm ((bq : Int) : Rat) tq w' ⟨by rw [Rat.num_intCast]; omega, by rw [Rat.num_intCast]; omega, by rw [Rat.den_intCast]; decide⟩ ⟨by have := htb3.1; omega, by have := htb3.2.1; omega, by have := htb3.2.2; omega⟩ hfin1
          rw [hdv, Rat.num_intCast, Rat.den_intCast] at this
          exact this
        have HWH : Hid (∀ w', Calls Try.prog 47 #[.int .i64 bq] w' fun e w'' => e = .returned (.agg #[.int .i64 bq, .int .i64 1]) ∧ Below w'.heap.size w' w'') := Lib.hid fun w' => by
          have := mwhole_any bq w'
          rw [fr_int] at this
          exact this
        have HFI := Lib.hid (And.intro hfin (And.intro hbq (And.intro htq hfq)))
        have d2 : ∀ A' (s : DescA wo 77 #[.int .i64 0, .int .i64 0] A'), s.val.cell? ⟨w5.heap.size, 0, none⟩ = some (.int .i64 tq.num) := fun A' s => s.cell t1
        have d3 : ∀ A' (s : DescA wo 77 #[.int .i64 0, .int .i64 0] A'), s.val.cell? ⟨w5.heap.size, 1, none⟩ = some (.int .i64 (tq.den : Int)) := fun A' s => s.cell t2
        have HD := Lib.hid (And.intro d2 d3)
        clear d2 d3 t1 t2 hltot htb3 hbq htq hfq hdv hfin hfin1
        go_upto_region 31 with fail
        go_cut [22] (fun pv wx => ∃ g, pv = .pointer (some ⟨g, 0, none⟩) ∧ wo.heap.size ≤ g ∧ Blk wx g 77 #[.int .i64 fq.num, .int .i64 (fq.den : Int)] ∧ Below wo.heap.size wo wx)
        case first =>
          as_aux_lemma =>
            refine' wp_region_desc_alloc 4 1 77 #[.int .i64 0, .int .i64 0] al_frac (by kernel_rfl) (by kernel_rfl) (by kernel_rfl) (by kernel_rfl) _ ?hh ?hq
            case hh =>
              intro A' hne Q' hQ'
              have e2 := HD.out.1 A'
              have e3 := HD.out.2 A'
              have HW2 : Hid (∀ sd : DescA wo 77 #[.int .i64 0, .int .i64 0] A', Calls Try.prog 47 #[.int .i64 bq] sd.val fun e w'' => e = .returned (.agg #[.int .i64 bq, .int .i64 1]) ∧ ∃ s' : DescA wo 77 #[.int .i64 0, .int .i64 0] A', w'' = s'.val) := Lib.hid fun sd => Calls.descA_of (HWH.out _)
              have HO2 : Hid (∀ sd : DescA wo 77 #[.int .i64 0, .int .i64 0] A', Calls Try.prog 50 #[.agg #[.int .i64 bq, .int .i64 1], .agg #[.int .i64 tq.num, .int .i64 (tq.den : Int)]] sd.val fun e w'' => e = .returned (.agg #[.int .i64 fq.num, .int .i64 (fq.den : Int)]) ∧ ∃ s' : DescA wo 77 #[.int .i64 0, .int .i64 0] A', w'' = s'.val) := Lib.hid fun sd => Calls.descA_of (HOV.out _)
              simp only [List.take_succ_cons, List.take_zero]
              repeat (go_big_quiet_step (first | (go_at_call 47; exact HW2.out _) | (go_at_call 50; exact HO2.out _)))
              refine wpQuiet_nil ?_
              exact hQ'
            case hq =>
              simp only [List.take_succ_cons, List.take_zero, List.drop_succ_cons, List.drop_zero]
              intro b hbge sd
              have hb3 := sd.below
              obtain ⟨z5, B5⟩ := sd.blks b (.inl rfl)
              generalize sd.val = w4x at hb3 B5 ⊢
              unfold ptrB
              obtain ⟨a0, a1, k0, k1⟩ := B5.at2
              have hX : Blk ((w4x.setCell ⟨b, 0, none⟩ (.int .i64 fq.num)).setCell ⟨b, 1, none⟩ (.int .i64 (fq.den : Int))) b 77 #[.int .i64 fq.num, .int .i64 (fq.den : Int)] := (B5.set_ 0 _).set_ 1 _
              have HX := Lib.hid (And.intro hX (And.intro hb3 hbge))
              have Z5 := Lib.hid z5
              clear hX hb3 hbge z5
              go_wp2_with fail
              go_meet
              case rel => exact ⟨b, rfl, Z5.out, HX.out.1, (HX.out.2.1.setCell (p := ⟨b, 0, none⟩) Z5.out _).setCell (p := ⟨b, 1, none⟩) Z5.out _⟩
        obtain ⟨wf, rfl⟩ : ∃ wf : World, wf = wc := ⟨_, rfl⟩
        obtain ⟨gf, rfl, hgf, hFB, hbf⟩ := hcut
        have hwo0 : w.heap.size ≤ wo.heap.size := HR.out.2.2.kept.size
        have hmf := HR.out.2.2.below hbf
        have hfs := hbf.size
        have hFl := hFB.lt
        have hpw : PB < w.heap.size := H.out.1.pri.lt
        have hdw : dm < w.heap.size := H.out.1.donm.lt
        have hlo : 0 < st.ord.length := (List.getElem?_eq_some_iff.1 HR.out.2.1.hd).1
        obtain ⟨go, rfl, hgo1, hgo2, hcell⟩ := own_someN hmf.own hlo
        have hbalf : wf.cell? ⟨bb, 0, none⟩ = some (.slice (some ⟨PB, 0, none⟩) k k) := by
          rw [hmf.kept.cell (p := ⟨bb, 0, none⟩) H.out.1.blt (by have := H.out.1.bd; have := H.out.1.bp; simp; omega)]
          exact H.out.1.bal
        have hbbw : bb < w.heap.size := H.out.1.blt
        have HF1 := Lib.hid (And.intro hmf (And.intro hFB (And.intro hbf (And.intro hcell hbalf))))
        have hkw : w.heap.size ≤ wf.heap.size := hmf.kept.size
        clear hmf hFB hbf hcell hbalf HOV HWH HD
        go_wp2_with fail
        go_loopw [200] (fun iv wx => ∃ i : Nat, i ≤ st.ord.length ∧ iv = .int .i64 i ∧ PrB wx PB 77 (psOf k st.don (scaTo fq st.ord st.pq i)) ∧ Kept wf.heap.size [PB] wf wx) (fun iv _ => st.ord.length - (intOf iv).toNat)
        case atStart => exact ⟨0, Nat.zero_le _, rfl, by rw [scaTo_zero]; exact HF1.out.1.pri, Kept.refl _ _ _⟩
        case round =>
          obtain ⟨i, hi, rfl, hPx, hkx⟩ := hrel
          obtain ⟨wl, rfl⟩ : ∃ wl : World, wl = wr := ⟨_, rfl⟩
          have hls := hkx.size
          have HL := Lib.hid (And.intro hPx hkx)
          clear hPx hkx
          by_cases hil : i < st.ord.length
          · as_aux_lemma =>
              obtain ⟨⟨xb, xi⟩, hx⟩ : ∃ x, st.ord[i]? = some x := ⟨_, List.getElem?_eq_getElem hil⟩
              obtain ⟨n1, n2⟩ := ncells_at _ _ _ hx
              have x1 := (HL.out.2.cell (p := ⟨go, i * 2, none⟩) hgo2 (by simp; omega)).trans (HF1.out.2.2.2.1 _ _ n1)
              have x2 := (HL.out.2.cell (p := ⟨go, i * 2 + 1, none⟩) hgo2 (by simp; omega)).trans (HF1.out.2.2.2.1 _ _ n2)
              dsimp only at x1 x2
              have hxm : (xb, xi) ∈ st.ord := List.mem_of_getElem? hx
              have hxr := HR.out.2.1.rng _ hxm
              have hX0 : Blk (wl.alloc (.cells #[.bool xb, .int .i64 (xi : Int)] 100)) wl.heap.size 100 #[.bool xb, .int .i64 (xi : Int)] := Blk.new _ _ _ rfl
              have hbx : Below wl.heap.size wl (wl.alloc (.cells #[.bool xb, .int .i64 (xi : Int)] 100)) := (Below.refl _ _).alloc (Nat.le_refl _) _
              have HX := Lib.hid (And.intro hx (And.intro hxm (And.intro hX0 hbx)))
              obtain ⟨w6, hw6⟩ : ∃ w6, w6 = wl.alloc (.cells #[.bool xb, .int .i64 (xi : Int)] 100) := ⟨_, rfl⟩
              rw [← hw6] at HX
              have hpl := HL.out.1.lt
              have hfl2 : gf < wl.heap.size := by omega
              clear hx n1 n2 hxm hX0 hbx
              cases xb with
              | true =>
                simp only [if_true] at hxr
                rw [H.out.1.hg] at hxr
                have hsn := scaTo_not (f := fq) (pq := st.pq) HR.out.2.1.nd HX.out.1
                have hP6 := HL.out.1.below HX.out.2.2.2 hpl
                obtain ⟨p1, p2⟩ := hP6.read (psOf_get (pq := scaTo fq st.ord st.pq i) hxr (HR.out.2.1.isdon _ HX.out.2.1))
                rw [hsn] at p1 p2
                obtain ⟨f1, f2, _, _⟩ := ((HF1.out.2.1.kept HL.out.2 hFl (by simp; omega)).below HX.out.2.2.2 hfl2).at2
                obtain ⟨v1, v2, _, _⟩ := HX.out.2.2.1.at2
                have hb6 : w6.cell? ⟨bb, 0, none⟩ = some (.slice (some ⟨PB, 0, none⟩) k k) := (HX.out.2.2.2.cell (p := ⟨bb, 0, none⟩) (by simp; omega)).trans ((HL.out.2.cell (p := ⟨bb, 0, none⟩) (by simp; omega) (by have := H.out.1.bp; simpa using this)).trans HF1.out.2.2.2.2)
                have hrb := HR.out.2.1.relB (by rw [H.out.1.hg]; exact hk3.2) HX.out.2.1
                have hfb := HFI.out.1.2.1
                rw [← HFI.out.2.2.2] at hfb
                have HTM : Hid (∀ s : Desc w6, Calls Try.prog 49 #[.agg #[.int .i64 (st.pq xi).num, .int .i64 ((st.pq xi).den : Int)], .agg #[.int .i64 fq.num, .int .i64 (fq.den : Int)]] s.val fun e w'' => e = .returned (.agg #[.int .i64 (st.pq xi * fq).num, .int .i64 ((st.pq xi * fq).den : Int)]) ∧ ∃ s' : Desc w6, w'' = s'.val) := Lib.hid fun s => Calls.desc_of (mtimes_sm (st.pq xi) fq s.val ⟨by have := hrb.1; omega, by have := hrb.2.1; omega, by have := hrb.2.2; omega⟩ ⟨by omega, by omega, by omega⟩ (by omega))
                have hsc := scaTo_good (f := fq) (pq := st.pq) HR.out.2.1.nd HX.out.1
                rw [hsn] at hsc
                have HSC := Lib.hid (And.intro hsc hP6)
                generalize st.pq xi * fq = nq at HTM hsc
                generalize hpp : st.pq xi = pp at HTM p1 p2 hrb
                have d1 : ∀ s : Desc w6, s.val.cell? ⟨bb, 0, none⟩ = some (.slice (some ⟨PB, 0, none⟩) k k) := fun s => s.cell hb6
                have d2 : ∀ s : Desc w6, s.val.cell? ⟨PB, xi * 2, none⟩ = some (.int .i64 pp.num) := fun s => s.cell p1
                have d3 : ∀ s : Desc w6, s.val.cell? ⟨PB, xi * 2 + 1, none⟩ = some (.int .i64 (pp.den : Int)) := fun s => s.cell p2
                have d4 : ∀ s : Desc w6, s.val.cell? ⟨gf, 0, none⟩ = some (.int .i64 fq.num) := fun s => s.cell f1
                have d5 : ∀ s : Desc w6, s.val.cell? ⟨gf, 1, none⟩ = some (.int .i64 (fq.den : Int)) := fun s => s.cell f2
                have d6 : ∀ s : Desc w6, s.val.cell? ⟨wl.heap.size, 1, none⟩ = some (.int .i64 (xi : Int)) := fun s => s.cell v2
                have HSC2 := Lib.hid hsc
                have HW6 := Lib.hid hw6
                subst hw6
                clear hsn hP6 p1 p2 f1 f2 v1 v2 hb6 hrb hfb hsc hpp
                go_wp2_with fail
                refine wp_region_desc_tail 17 (by kernel_rfl) (by kernel_rfl) ?_
                simp only [List.take_succ_cons, List.take_zero, List.drop_succ_cons, List.drop_zero]
                repeat (go_big_quiet_step (first | (go_at_call 49; exact HTM.out _)))
                refine wpQuiet_nil ?_
                rintro _ ⟨sd, rfl⟩
                have hb7 := sd.below
                generalize sd.val = w7 at hb7 ⊢
                clear d1 d2 d3 d4 d5 d6
                have hP7 := HSC.out.2.below hb7 HSC.out.2.lt
                obtain ⟨r1, r2⟩ := hP7.read (psOf_get (pq := scaTo fq st.ord st.pq i) hxr (HR.out.2.1.isdon _ HX.out.2.1))
                have r3 := hP7.frozen (xi * 2)
                have r4 := hP7.frozen (xi * 2 + 1)
                have HP7 := Lib.hid (And.intro hb7 hP7)
                clear hb7 hP7
                go_wp2_with fail
                go_roundw
                case rel =>
                  have hP8 := HP7.out.2.set_ xi nq.num nq.den
                  rw [psOf_set, upd_true (HR.out.2.1.isdon _ HX.out.2.1), ← HSC2.out] at hP8
                  have hbb7 := HX.out.2.2.2.trans (HP7.out.1.mono HX.out.2.2.2.size)
                  exact ⟨i + 1, by omega, by go_num, hP8, ((HL.out.2.trans (Kept.of_below (hbb7.mono hls) _)).setCell (.inl (by simp)) _).setCell (.inl (by simp)) _⟩
                case measure => simp [intOf]; omega
              | false =>
                have HSB := Lib.hid (scaTo_buyer (f := fq) (pq := st.pq) HX.out.1)
                subst hw6
                go_wp2_with fail
                go_roundw
                case rel => exact ⟨i + 1, by omega, by go_num, by rw [HSB.out]; exact HL.out.1.below HX.out.2.2.2 hpl, HL.out.2.trans (Kept.of_below (HX.out.2.2.2.mono hls) _)⟩
                case measure => simp [intOf]; omega
          · obtain rfl : i = st.ord.length := by omega
            have hML := MapN.made wl (.agg #[.int .i64 0, .int .i64 0])
            rw [← leftV_zero (lf0 B (compPq B st)) st.ord] at hML
            have HML := Lib.hid hML
            have HPQ : Hid (PrB wl PB 77 (psOf k st.don (compPq B st))) := Lib.hid (by
              have h := HL.out.1
              rw [HFI.out.2.2.2] at h
              exact h)
            have hpl := HL.out.1.lt
            clear hML
            go_wp2_with fail
            go_loopw [227] (fun iv wx => ∃ i : Nat, i ≤ st.ord.length ∧ iv = .int .i64 i ∧ MapN wx wl.heap.size i (.agg #[.int .i64 0, .int .i64 0]) (leftV (lf0 B (compPq B st)) st.ord i) ∧ Below wl.heap.size wl wx) (fun iv _ => st.ord.length - (intOf iv).toNat)
            case atStart => exact ⟨0, Nat.zero_le _, rfl, HML.out, (Below.refl _ _).alloc (Nat.le_refl _) _⟩
            case round =>
              obtain ⟨i, hi, rfl, hMx, hbm⟩ := hrel
              obtain ⟨wm, rfl⟩ : ∃ wm : World, wm = wr := ⟨_, rfl⟩
              have hms := hbm.size
              have HM := Lib.hid (And.intro hMx hbm)
              have hml := hMx.lt
              clear hMx hbm
              by_cases hil : i < st.ord.length
              · as_aux_lemma =>
                  obtain ⟨⟨xb, xi⟩, hx⟩ : ∃ x, st.ord[i]? = some x := ⟨_, List.getElem?_eq_getElem hil⟩
                  obtain ⟨n1, n2⟩ := ncells_at _ _ _ hx
                  have x1 := (HM.out.2.cell (p := ⟨go, i * 2, none⟩) (by simp; omega)).trans ((HL.out.2.cell (p := ⟨go, i * 2, none⟩) hgo2 (by simp; omega)).trans (HF1.out.2.2.2.1 _ _ n1))
                  have x2 := (HM.out.2.cell (p := ⟨go, i * 2 + 1, none⟩) (by simp; omega)).trans ((HL.out.2.cell (p := ⟨go, i * 2 + 1, none⟩) hgo2 (by simp; omega)).trans (HF1.out.2.2.2.1 _ _ n2))
                  dsimp only at x1 x2
                  have hxm : (xb, xi) ∈ st.ord := List.mem_of_getElem? hx
                  have hxr := HR.out.2.1.rng _ hxm
                  have hX0 : Blk (wm.alloc (.cells #[.bool xb, .int .i64 (xi : Int)] 100)) wm.heap.size 100 #[.bool xb, .int .i64 (xi : Int)] := Blk.new _ _ _ rfl
                  have hbx : Below wm.heap.size wm (wm.alloc (.cells #[.bool xb, .int .i64 (xi : Int)] 100)) := (Below.refl _ _).alloc (Nat.le_refl _) _
                  have hbl : Below wl.heap.size wl (wm.alloc (.cells #[.bool xb, .int .i64 (xi : Int)] 100)) := HM.out.2.trans (hbx.mono hms)
                  have HX := Lib.hid (And.intro hx (And.intro hxm (And.intro hX0 (And.intro hbx hbl))))
                  have HLV := Lib.hid (leftV_next (lf := lf0 B (compPq B st)) hx)
                  clear hx n1 n2 hxm hX0 hbx hbl
                  cases xb with
                  | true =>
                    simp only [if_true] at hxr
                    rw [H.out.1.hg] at hxr
                    obtain ⟨p1, p2⟩ := (HPQ.out.below HX.out.2.2.2.2 hpl).read (psOf_get (pq := compPq B st) hxr (HR.out.2.1.isdon _ HX.out.2.1))
                    obtain ⟨v1, v2, _, _⟩ := HX.out.2.2.1.at2
                    have hb6 := (HX.out.2.2.2.2.cell (p := ⟨bb, 0, none⟩) (by simp; omega)).trans ((HL.out.2.cell (p := ⟨bb, 0, none⟩) (by simp; omega) (by have := H.out.1.bp; simpa using this)).trans HF1.out.2.2.2.2)
                    obtain ⟨pp, hpp⟩ : ∃ p, p = compPq B st xi := ⟨_, rfl⟩
                    rw [← hpp] at p1 p2
                    have HPP := Lib.hid hpp
                    obtain ⟨w6, hw6⟩ : ∃ w6, w6 = wm.alloc (.cells #[.bool true, .int .i64 (xi : Int)] 100) := ⟨_, rfl⟩
                    have HW6 := Lib.hid hw6
                    have d1 : ∀ s : Desc w6, s.val.cell? ⟨bb, 0, none⟩ = some (.slice (some ⟨PB, 0, none⟩) k k) := fun s => s.cell (by rw [hw6]; exact hb6)
                    have d2 : ∀ s : Desc w6, s.val.cell? ⟨PB, xi * 2, none⟩ = some (.int .i64 pp.num) := fun s => s.cell (by rw [hw6]; exact p1)
                    have d3 : ∀ s : Desc w6, s.val.cell? ⟨PB, xi * 2 + 1, none⟩ = some (.int .i64 (pp.den : Int)) := fun s => s.cell (by rw [hw6]; exact p2)
                    have d4 : ∀ s : Desc w6, s.val.cell? ⟨wm.heap.size, 0, none⟩ = some (.bool true) := fun s => s.cell (by rw [hw6]; exact v1)
                    have d5 : ∀ s : Desc w6, s.val.cell? ⟨wm.heap.size, 1, none⟩ = some (.int .i64 (xi : Int)) := fun s => s.cell (by rw [hw6]; exact v2)
                    clear hpp p1 p2 hb6 v1 v2
                    subst hw6
                    go_wp2_with fail
                    refine wp_region_desc_tail 10 (by kernel_rfl) (by kernel_rfl) ?_
                    simp only [List.take_succ_cons, List.take_zero, List.drop_succ_cons, List.drop_zero]
                    repeat (go_big_quiet_step (fail))
                    refine wpQuiet_nil ?_
                    rintro _ ⟨sd, rfl⟩
                    have hb7 := sd.below
                    generalize sd.val = w7 at hb7 ⊢
                    clear d1 d2 d3 d4 d5
                    have hbm7 : Below wm.heap.size wm w7 := HX.out.2.2.2.1.trans (hb7.mono HX.out.2.2.2.1.size)
                    obtain ⟨w8, hrun8, hM8, hg8⟩ := (HM.out.1.kept (hbm7.block _ hml)).store (t := 108) Try.underlying108 (c := true) (i := xi) (by omega) (.agg #[.int .i64 pp.num, .int .i64 (pp.den : Int)]) (by omega)
                    have H8 := Lib.hid (And.intro hM8 (And.intro hg8 hbm7))
                    clear hM8 hg8 hbm7 hb7
                    go_wp2_with fail
                    go_roundw
                    case rel =>
                      refine ⟨i + 1, by omega, by go_num, ?_, ?_⟩
                      · rw [HLV.out, show lf0 B (compPq B st) (true, xi) = pp from HPP.out.symm]
                        exact H8.out.1
                      · have hb := HM.out.2.trans (H8.out.2.2.mono hms)
                        exact ((Kept.of_below hb []).grown H8.out.2.1 hb.size (fun q hq => by injection hq with hq; exact .inr (by omega))).below
                    case measure => simp [intOf]; omega
                  | false =>
                    simp only [Bool.false_eq_true, if_false] at hxr
                    obtain ⟨aB, hAe, _, hcB⟩ := H.out.1.mkt.budgets.some_ (by rw [H.out.1.mkt.hB]; omega)
                    obtain ⟨bx, hbx⟩ : ∃ b, B[xi]? = some b := ⟨_, List.getElem?_eq_getElem (by rw [H.out.1.mkt.hB]; exact hxr)⟩
                    have hbg : lf0 B (compPq B st) (false, xi) = ((bx : Int) : Rat) := by unfold lf0; simp only [Bool.false_eq_true, if_false]; rw [List.getD_eq_getElem?_getD, hbx]; rfl
                    have hkl : Kept w.heap.size [dm, PB] w wl := HF1.out.1.kept.trans (HL.out.2.mono hkw (fun z hz => by simp at hz; simp [hz]))
                    have hk6 := hkl.trans (Kept.of_below (HX.out.2.2.2.2.mono hkl.size) _)
                    have hk0 := H.out.1.bel.trans (hk6.mono (B' := w0.heap.size) (S' := []) H.out.1.bel.size (fun y hy => by have := H.out.1.p0; have := H.out.1.d0; simp at hy; omega)).below
                    have c1 := (hk0.cell (lt_of_cell (hcB xi bx hbx))).trans (hcB xi bx hbx)
                    obtain ⟨v1, v2, _, _⟩ := HX.out.2.2.1.at2
                    have hmk := (Blk.kept (HF1.out.1.mkb) HL.out.2 HF1.out.1.mkb.lt (by simp; omega))
                    obtain ⟨m1, _, _, _⟩ := (hmk.below HX.out.2.2.2.2 hmk.lt).at2
                    have hBn := H.out.1.mkt.hB
                    subst hAe
                    have hbxr := H.out.1.buds bx (List.mem_of_getElem? hbx)
                    have HBG := Lib.hid hbg
                    obtain ⟨w6, hw6⟩ : ∃ w6, w6 = wm.alloc (.cells #[.bool false, .int .i64 (xi : Int)] 100) := ⟨_, rfl⟩
                    have d1 : ∀ s : Desc w6, s.val.cell? ⟨w.heap.size, 0, none⟩ = some (.slice (some aB) n c) := fun s => s.cell (by rw [hw6]; exact m1)
                    have d2 : ∀ s : Desc w6, s.val.cell? (aB.add xi) = some (.int .i64 bx) := fun s => s.cell (by rw [hw6]; exact c1)
                    have d4 : ∀ s : Desc w6, s.val.cell? ⟨wm.heap.size, 0, none⟩ = some (.bool false) := fun s => s.cell (by rw [hw6]; exact v1)
                    have d5 : ∀ s : Desc w6, s.val.cell? ⟨wm.heap.size, 1, none⟩ = some (.int .i64 (xi : Int)) := fun s => s.cell (by rw [hw6]; exact v2)
                    have HW6 : Hid (∀ s : Desc w6, Calls Try.prog 47 #[.int .i64 bx] s.val fun e w'' => e = .returned (.agg #[.int .i64 bx, .int .i64 1]) ∧ ∃ s' : Desc w6, w'' = s'.val) := Lib.hid fun s => Calls.desc_of (by
                      have := mwhole_any bx s.val
                      rw [fr_int] at this
                      exact this)
                    clear m1 c1 v1 v2 hk0 hk6 hkl hmk hcB hbx hbg hbxr
                    subst hw6
                    go_wp2_with fail
                    refine wp_region_desc_tail 9 (by kernel_rfl) (by kernel_rfl) ?_
                    simp only [List.take_succ_cons, List.take_zero, List.drop_succ_cons, List.drop_zero]
                    repeat (go_big_quiet_step (first | (go_at_call 47; exact HW6.out _)))
                    refine wpQuiet_nil ?_
                    rintro _ ⟨sd, rfl⟩
                    have hb7 := sd.below
                    generalize sd.val = w7 at hb7 ⊢
                    clear d1 d2 d4 d5
                    have hbm7 : Below wm.heap.size wm w7 := HX.out.2.2.2.1.trans (hb7.mono HX.out.2.2.2.1.size)
                    obtain ⟨w8, hrun8, hM8, hg8⟩ := (HM.out.1.kept (hbm7.block _ hml)).store (t := 108) Try.underlying108 (c := false) (i := xi) (by have := H.out.1.hn.2; omega) (.agg #[.int .i64 bx, .int .i64 1]) (by omega)
                    have H8 := Lib.hid (And.intro hM8 (And.intro hg8 hbm7))
                    clear hM8 hg8 hbm7 hb7
                    go_wp2_with fail
                    go_roundw
                    case rel =>
                      refine ⟨i + 1, by omega, by go_num, ?_, ?_⟩
                      · rw [HLV.out, HBG.out, Rat.num_intCast, Rat.den_intCast]
                        exact H8.out.1
                      · have hb := HM.out.2.trans (H8.out.2.2.mono hms)
                        exact ((Kept.of_below hb []).grown H8.out.2.1 hb.size (fun q hq => by injection hq with hq; exact .inr (by omega))).below
                    case measure => simp [intOf]; omega
              · obtain rfl : i = st.ord.length := by omega
                obtain ⟨t, ht, hlb⟩ := HFI.out.1.2.2.2
                have HLB := Lib.hid hlb
                obtain ⟨lf0', hlf0⟩ : ∃ l, l = lf0 B (compPq B st) := ⟨_, rfl⟩
                have HR0 : Hid (SpRows wm n k R sp) := Lib.hid (fun i hi => by
                  have h1 := HSP.out.blk i hi
                  have h2 := HSP.out.rne i hi
                  have hkl : Kept w.heap.size [dm, PB] w wl := HF1.out.1.kept.trans (HL.out.2.mono hkw (fun z hz => by simp at hz; simp [hz]))
                  have hkm := hkl.trans (Kept.of_below (HM.out.2.mono hkl.size) _)
                  exact h1.kept hkm h1.lt (by simp [h2.1, h2.2.1]))
                go_wp2_with fail
                go_loopw [28] (fun kv wx => ∃ cc j : Nat, cc + j + 1 = st.ord.length ∧ kv = .int .i64 j ∧ MapN wx wl.heap.size (st.ord.length + cc) (.agg #[.int .i64 0, .int .i64 0]) (leftV (bkTo st.ord st.par (lf0 B (compPq B st)) sp cc).1 st.ord st.ord.length) ∧ SpRows wx n k R (bkTo st.ord st.par (lf0 B (compPq B st)) sp cc).2 ∧ Kept wm.heap.size (wl.heap.size :: (List.range n).map R) wm wx) (fun kv _ => (intOf kv).toNat)
                case atStart => exact ⟨0, st.ord.length - 1, by omega, by go_num, HM.out.1, HR0.out, Kept.refl _ _ _⟩
                case round =>
                  obtain ⟨cc, j, hcj, rfl, hMx, hSx, hkx⟩ := hrel
                  obtain ⟨wp, rfl⟩ : ∃ wp : World, wp = wr := ⟨_, rfl⟩
                  have hps := hkx.size
                  have HP := Lib.hid (And.intro hMx (And.intro hSx hkx))
                  clear hMx hSx hkx
                  by_cases hj0 : 0 < j
                  · as_aux_lemma =>
                      obtain ⟨⟨xb, xi⟩, hx⟩ : ∃ x, st.ord[j]? = some x := ⟨_, List.getElem?_eq_getElem (by omega)⟩
                      obtain ⟨n1, n2⟩ := ncells_at _ _ _ hx
                      have hRlt : ∀ i, i < n → R i < w.heap.size := fun i hi => (HSP.out.blk i hi).lt
                      have hgs : ∀ g, w.heap.size ≤ g → g < wl.heap.size → g ∉ wl.heap.size :: (List.range n).map R := fun g h1 h2 hm => by
                        rcases List.mem_cons.1 hm with e | e
                        · omega
                        · obtain ⟨i, hi, e⟩ := List.mem_map.1 e
                          have := hRlt i (List.mem_range.1 hi)
                          omega
                      have hcp : ∀ g, w.heap.size ≤ g → g < wl.heap.size → wp.heap[g]? = wl.heap[g]? := fun g h1 h2 => (HP.out.2.2.block g (by omega) (hgs g h1 h2)).trans (HM.out.2.block g h2)
                      have hfl : ∀ g, w.heap.size ≤ g → g < wf.heap.size → wp.heap[g]? = wf.heap[g]? := fun g h1 h2 => (hcp g h1 (by omega)).trans (HL.out.2.block g h2 (by simp; omega))
                      have x1 := (World.cell?_of_block (w := wf) (a := ⟨go, j * 2, none⟩) (hfl go hgo1 hgo2)).trans (HF1.out.2.2.2.1 _ _ n1)
                      have x2 := (World.cell?_of_block (w := wf) (a := ⟨go, j * 2 + 1, none⟩) (hfl go hgo1 hgo2)).trans (HF1.out.2.2.2.1 _ _ n2)
                      dsimp only at x1 x2
                      have hpl1 := HF1.out.1.parm.lt
                      have hpar1 := HF1.out.1.parm.kept (hfl _ (by omega) hpl1)
                      have hxm : (xb, xi) ∈ st.ord := List.mem_of_getElem? hx
                      have hxr := HR.out.2.1.rng _ hxm
                      obtain ⟨⟨pi', hpi1, hpi2⟩, hpi3, _⟩ := HR.out.2.1.par j (xb, xi) hx hj0
                      have hpm : st.par (xb, xi) ∈ st.ord := List.mem_of_getElem? hpi2
                      have hpr := HR.out.2.1.rng _ hpm
                      have hbk := bkTo_next (par := st.par) (lf := lf0 B (compPq B st)) (sp := sp) hcj hx
                      have hlc := (HLB.out.bk ht.1 (sp := sp) HR.out.2.1 cc (by omega))
                      have hsmx := hlc.sm ht (by omega) hxm
                      have hsmp := hlc.sm ht (by omega) hpm
                      obtain ⟨⟨pb, pi⟩, hpar⟩ : ∃ x, x = st.par (xb, xi) := ⟨_, rfl⟩
                      rw [← hpar] at hpi3 hpm hpr hbk hsmp
                      simp only at hpi3
                      subst hpi3
                      rw [H.out.1.hg] at hxr hpr
                      have hxi3 : xi < 3 := by
                        have := H.out.1.hn.2
                        cases xb <;> simp at hxr <;> omega
                      have hpi3 : pi < 3 := by
                        have := H.out.1.hn.2
                        cases xb <;> simp at hpr <;> omega
                      have hlk1 := (hpar1.kept (Below.heap_alloc wp (.cells #[.bool xb, .int .i64 (xi : Int)] 100) _ hpar1.lt)).look (t := 106) Try.underlying106 (zero_node _) (c := xb) hxi3
                      rw [← hpar] at hlk1
                      dsimp only [nodeV] at hlk1
                      obtain ⟨lfc, hlfc⟩ : ∃ l, l = (bkTo st.ord st.par (lf0 B (compPq B st)) sp cc).1 := ⟨_, rfl⟩
                      obtain ⟨spc, hspc⟩ : ∃ l, l = (bkTo st.ord st.par (lf0 B (compPq B st)) sp cc).2 := ⟨_, rfl⟩
                      rw [← hlfc, ← hspc] at HP hbk
                      rw [← hlfc] at hsmx hsmp
                      have HK := Lib.hid (And.intro hx (And.intro hbk (And.intro hxm (And.intro hpm (And.intro hsmx hsmp)))))
                      have HHF := Lib.hid hfl
                      have HRL := Lib.hid hRlt
                      have hR0 : Hid (∀ i, i < n → w0.heap.size ≤ R i) := Lib.hid fun i hi => (HSP.out.rne i hi).2.2.2.2
                      clear hx hbk hxm hpm hsmx hsmp hlfc hspc hpi1 hpi2 hlc hpar hpar1 hcp hgs hfl n1 n2 hRlt
                      go_upto_if 268 with fail
                      obtain ⟨w7, hw7⟩ : ∃ w7, w7 = (wp.alloc (.cells #[.bool xb, .int .i64 (xi : Int)] 100)).alloc (.cells #[.bool !xb, .int .i64 (pi : Int)] 100) := ⟨_, rfl⟩
                      rw [← hw7]
                      have hs7 : w7.heap.size = wp.heap.size + 2 := by rw [hw7]; simp
                      have hb7 : Below wp.heap.size wp w7 := by rw [hw7]; exact ((Below.refl _ _).alloc (Nat.le_refl _) _).alloc (by simp) _
                      have hX7 : Blk w7 wp.heap.size 100 #[.bool xb, .int .i64 (xi : Int)] := by rw [hw7]; exact (Blk.new _ _ _ rfl).alloc _
                      have hP7 : Blk w7 (wp.heap.size + 1) 100 #[.bool !xb, .int .i64 (pi : Int)] := by rw [hw7]; exact Blk.new _ _ _ (by simp)
                      have hq7 : ∀ g, g < w.heap.size → g ≠ dm → g ≠ PB → (∀ i, i < n → R i ≠ g) → w7.heap[g]? = w.heap[g]? := fun g h1 h2 h3 h4 => by
                        have e1 := hb7.block g (by omega)
                        have e2 := HP.out.2.2.block g (by omega) (fun hm => by
                          rcases List.mem_cons.1 hm with e | e
                          · omega
                          · obtain ⟨i, hi, e⟩ := List.mem_map.1 e
                            exact h4 i (List.mem_range.1 hi) e)
                        have e3 := HM.out.2.block g (by omega)
                        have e4 := HL.out.2.block g (by omega) (by simp; exact h3)
                        have e5 := HF1.out.1.kept.block g h1 (by simp; omega)
                        exact e1.trans (e2.trans (e3.trans (e4.trans e5)))
                      have hS7 : SpRows w7 n k R spc := HP.out.2.1.far fun i hi => hb7.block _ (HP.out.2.1 i hi).lt
                      have hM7 := HP.out.1.kept (hb7.block _ HP.out.1.lt)
                      have HX7 := Lib.hid (And.intro hX7 (And.intro hP7 (And.intro hS7 (And.intro hM7 hb7))))
                      obtain ⟨lx, hlx⟩ : ∃ lx, lx = lfc (xb, xi) := ⟨_, rfl⟩
                      have HLX := Lib.hid hlx
                      clear hw7 hb7 hX7 hP7 hS7 hM7 hlx
                      go_cut [29] (fun xv wx => xv = .pointer (some ⟨wp.heap.size, 0, none⟩) ∧ SpRows wx n k R (upd2 spc (if xb then pi else xi) (if xb then xi else pi) (lfc (xb, xi))) ∧ Kept (wp.heap.size + 2) ((List.range n).map R) w7 wx)
                      case first =>
                        as_aux_lemma =>
                          cases xb with
                          | true =>
                            obtain ⟨v1, v2, _, _⟩ := HX7.out.1.at2
                            obtain ⟨v3, v4, _, _⟩ := HX7.out.2.1.at2
                            have hbn : pi < n := by simpa using hpr
                            have hgk : xi < k := by simpa using hxr
                            have c1 := (hq7 bb H.out.1.blt H.out.1.bd H.out.1.bp (fun i hi => (HSP.out.rne i hi).2.2.1)).trans rfl
                            have c2 := hq7 SB HSP.out.sne.2.2 HSP.out.sne.2.1 HSP.out.sne.1 (fun i hi => (HSP.out.rne i hi).2.2.2.1)
                            have b1 := (World.cell?_of_block (w := w) (a := ⟨bb, 1, none⟩) c1).trans HSP.out.sb
                            have b2 := (World.cell?_of_block (w := w) (a := ⟨SB, pi, none⟩) c2).trans (HSP.out.row pi hbn)
                            have hlk2 : ∀ s : Desc w7, (Instr.lookup 108 (.map (some wl.heap.size)) (.agg #[.bool true, .int .i64 (xi : Int)]) false).run Try.prog s.val = .ok (.agg #[.int .i64 lx.num, .int .i64 (lx.den : Int)]) s.val := fun s => by
                              have h1 := (HX7.out.2.2.2.1.kept (s.below.block _ HX7.out.2.2.2.1.lt)).look (t := 108) Try.underlying108 (zero_mfrac s.val) (c := true) hxi3
                              rw [leftV_get HK.out.2.2.1, ← HLX.out] at h1
                              exact h1
                            have d1 : ∀ s : Desc w7, s.val.cell? ⟨bb, 1, none⟩ = some (.slice (some ⟨SB, 0, none⟩) n n) := fun s => s.cell b1
                            have d2 : ∀ s : Desc w7, s.val.cell? ⟨SB, pi, none⟩ = some (.slice (some ⟨R pi, 0, none⟩) k k) := fun s => s.cell b2
                            have d3 : ∀ s : Desc w7, s.val.cell? ⟨wp.heap.size, 0, none⟩ = some (.bool true) := fun s => s.cell v1
                            have d4 : ∀ s : Desc w7, s.val.cell? ⟨wp.heap.size, 1, none⟩ = some (.int .i64 (xi : Int)) := fun s => s.cell v2
                            have d5 : ∀ s : Desc w7, s.val.cell? ⟨wp.heap.size + 1, 1, none⟩ = some (.int .i64 (pi : Int)) := fun s => s.cell v4
                            clear v1 v2 v3 v4 b1 b2 c1 c2 hq7 hlk1
                            go_wp2_with fail
                            refine wp_region_desc_tail 14 (by kernel_rfl) (by kernel_rfl) ?_
                            simp only [List.take_succ_cons, List.take_zero, List.drop_succ_cons, List.drop_zero]
                            repeat (go_big_quiet_step (fail))
                            refine wpQuiet_nil ?_
                            rintro _ ⟨sd, rfl⟩
                            have hb8 := sd.below
                            generalize sd.val = w8 at hb8 ⊢
                            clear d1 d2 d3 d4 d5 hlk2
                            have hS8 : SpRows w8 n k R spc := HX7.out.2.2.1.far fun i hi => hb8.block _ (HX7.out.2.2.1 i hi).lt
                            obtain ⟨r1, r2⟩ := (hS8 pi hbn).read (spOf_get (spc pi) hgk)
                            have r3 := (hS8 pi hbn).frozen (xi * 2)
                            have r4 := (hS8 pi hbn).frozen (xi * 2 + 1)
                            have H8 := Lib.hid (And.intro hS8 hb8)
                            clear hS8 hb8
                            go_wp2_with fail
                            go_meet
                            case rel =>
                              refine ⟨rfl, ?_, ?_⟩
                              · have := H8.out.1.put HSP.out.inj hbn xi lx
                                rw [HLX.out] at this ⊢
                                exact this
                              · exact ((Kept.of_below (H8.out.2.mono (Nat.le_of_eq hs7.symm)) _).setCell (.inl (mem_rows hbn)) _).setCell (.inl (mem_rows hbn)) _
                          | false =>
                            obtain ⟨v1, v2, _, _⟩ := HX7.out.1.at2
                            obtain ⟨v3, v4, _, _⟩ := HX7.out.2.1.at2
                            have hbn : xi < n := by simpa using hxr
                            have hgk : pi < k := by simpa using hpr
                            have c1 := (hq7 bb H.out.1.blt H.out.1.bd H.out.1.bp (fun i hi => (HSP.out.rne i hi).2.2.1)).trans rfl
                            have c2 := hq7 SB HSP.out.sne.2.2 HSP.out.sne.2.1 HSP.out.sne.1 (fun i hi => (HSP.out.rne i hi).2.2.2.1)
                            have b1 := (World.cell?_of_block (w := w) (a := ⟨bb, 1, none⟩) c1).trans HSP.out.sb
                            have b2 := (World.cell?_of_block (w := w) (a := ⟨SB, xi, none⟩) c2).trans (HSP.out.row xi hbn)
                            have hlk2 : ∀ s : Desc w7, (Instr.lookup 108 (.map (some wl.heap.size)) (.agg #[.bool false, .int .i64 (xi : Int)]) false).run Try.prog s.val = .ok (.agg #[.int .i64 lx.num, .int .i64 (lx.den : Int)]) s.val := fun s => by
                              have h1 := (HX7.out.2.2.2.1.kept (s.below.block _ HX7.out.2.2.2.1.lt)).look (t := 108) Try.underlying108 (zero_mfrac s.val) (c := false) hxi3
                              rw [leftV_get HK.out.2.2.1, ← HLX.out] at h1
                              exact h1
                            have d1 : ∀ s : Desc w7, s.val.cell? ⟨bb, 1, none⟩ = some (.slice (some ⟨SB, 0, none⟩) n n) := fun s => s.cell b1
                            have d2 : ∀ s : Desc w7, s.val.cell? ⟨SB, xi, none⟩ = some (.slice (some ⟨R xi, 0, none⟩) k k) := fun s => s.cell b2
                            have d3 : ∀ s : Desc w7, s.val.cell? ⟨wp.heap.size, 0, none⟩ = some (.bool false) := fun s => s.cell v1
                            have d4 : ∀ s : Desc w7, s.val.cell? ⟨wp.heap.size, 1, none⟩ = some (.int .i64 (xi : Int)) := fun s => s.cell v2
                            have d5 : ∀ s : Desc w7, s.val.cell? ⟨wp.heap.size + 1, 1, none⟩ = some (.int .i64 (pi : Int)) := fun s => s.cell v4
                            clear v1 v2 v3 v4 b1 b2 c1 c2 hq7 hlk1
                            go_wp2_with fail
                            refine wp_region_desc_tail 14 (by kernel_rfl) (by kernel_rfl) ?_
                            simp only [List.take_succ_cons, List.take_zero, List.drop_succ_cons, List.drop_zero]
                            repeat (go_big_quiet_step (fail))
                            refine wpQuiet_nil ?_
                            rintro _ ⟨sd, rfl⟩
                            have hb8 := sd.below
                            generalize sd.val = w8 at hb8 ⊢
                            clear d1 d2 d3 d4 d5 hlk2
                            have hS8 : SpRows w8 n k R spc := HX7.out.2.2.1.far fun i hi => hb8.block _ (HX7.out.2.2.1 i hi).lt
                            obtain ⟨r1, r2⟩ := (hS8 xi hbn).read (spOf_get (spc xi) hgk)
                            have r3 := (hS8 xi hbn).frozen (pi * 2)
                            have r4 := (hS8 xi hbn).frozen (pi * 2 + 1)
                            have H8 := Lib.hid (And.intro hS8 hb8)
                            clear hS8 hb8
                            go_wp2_with fail
                            go_meet
                            case rel =>
                              refine ⟨rfl, ?_, ?_⟩
                              · have := H8.out.1.put HSP.out.inj hbn pi lx
                                rw [HLX.out] at this ⊢
                                exact this
                              · exact ((Kept.of_below (H8.out.2.mono (Nat.le_of_eq hs7.symm)) _).setCell (.inl (mem_rows hbn)) _).setCell (.inl (mem_rows hbn)) _
                      obtain ⟨wy, rfl⟩ : ∃ wy : World, wy = wc := ⟨_, rfl⟩
                      obtain ⟨rfl, hS, hk⟩ := hcut
                      have hys := hk.size
                      have hnr : ∀ g, w.heap.size ≤ g → g ∉ (List.range n).map R := fun g h1 hm => by
                        obtain ⟨i, hi, e⟩ := List.mem_map.1 hm
                        have := HRL.out i (List.mem_range.1 hi)
                        omega
                      have hXy := HX7.out.1.kept hk (by omega) (hnr _ (by omega))
                      have hPy := HX7.out.2.1.kept hk (by omega) (hnr _ (by omega))
                      have hMy := HX7.out.2.2.2.1.kept (hk.block _ (by omega) (hnr _ (by omega)))
                      have HY := Lib.hid (And.intro hS (And.intro hk hMy))
                      obtain ⟨v1, v2, _, _⟩ := hXy.at2
                      obtain ⟨v3, v4, _, _⟩ := hPy.at2
                      obtain ⟨lp, hlp⟩ : ∃ l, l = lfc (!xb, pi) := ⟨_, rfl⟩
                      have hlk2 : ∀ s : Desc wy, (Instr.lookup 108 (.map (some wl.heap.size)) (.agg #[.bool xb, .int .i64 (xi : Int)]) false).run Try.prog s.val = .ok (.agg #[.int .i64 lx.num, .int .i64 (lx.den : Int)]) s.val := fun s => by
                        have h1 := (HY.out.2.2.kept (s.below.block _ HY.out.2.2.lt)).look (t := 108) Try.underlying108 (zero_mfrac s.val) (c := xb) hxi3
                        rw [leftV_get HK.out.2.2.1, ← HLX.out] at h1
                        exact h1
                      have hlk3 : ∀ s : Desc wy, (Instr.lookup 108 (.map (some wl.heap.size)) (.agg #[.bool !xb, .int .i64 (pi : Int)]) false).run Try.prog s.val = .ok (.agg #[.int .i64 lp.num, .int .i64 (lp.den : Int)]) s.val := fun s => by
                        have h1 := (HY.out.2.2.kept (s.below.block _ HY.out.2.2.lt)).look (t := 108) Try.underlying108 (zero_mfrac s.val) (c := !xb) hpi3
                        rw [leftV_get HK.out.2.2.2.1, ← hlp] at h1
                        exact h1
                      have hsx := HK.out.2.2.2.2.1
                      have hsp := HK.out.2.2.2.2.2
                      rw [← HLX.out] at hsx
                      rw [← hlp] at hsp
                      have HMI : Hid (∀ s : Desc wy, Calls Try.prog 71 #[.agg #[.int .i64 lp.num, .int .i64 (lp.den : Int)], .agg #[.int .i64 lx.num, .int .i64 (lx.den : Int)]] s.val fun e w'' => e = .returned (.agg #[.int .i64 (lp - lx).num, .int .i64 ((lp - lx).den : Int)]) ∧ ∃ s' : Desc wy, w'' = s'.val) := Lib.hid fun s => Calls.desc_of (mminus_sm lp lx s.val ⟨by omega, by omega, by omega⟩ ⟨by omega, by omega, by omega⟩)
                      obtain ⟨lq, hlq⟩ : ∃ l, l = lp - lx := ⟨_, rfl⟩
                      rw [← hlq] at HMI
                      have d1 : ∀ s : Desc wy, s.val.cell? ⟨wp.heap.size, 0, none⟩ = some (.bool xb) := fun s => s.cell v1
                      have d2 : ∀ s : Desc wy, s.val.cell? ⟨wp.heap.size, 1, none⟩ = some (.int .i64 (xi : Int)) := fun s => s.cell v2
                      have d3 : ∀ s : Desc wy, s.val.cell? ⟨wp.heap.size + 1, 0, none⟩ = some (.bool !xb) := fun s => s.cell v3
                      have d4 : ∀ s : Desc wy, s.val.cell? ⟨wp.heap.size + 1, 1, none⟩ = some (.int .i64 (pi : Int)) := fun s => s.cell v4
                      have HLQ := Lib.hid (And.intro hlp hlq)
                      have HNR := Lib.hid hnr
                      clear v1 v2 v3 v4 hS hk hMy hXy hPy hlp hlq hnr hsx hsp hq7 hlk1
                      go_wp2_with fail
                      refine wp_region_desc_tail 9 (by kernel_rfl) (by kernel_rfl) ?_
                      simp only [List.take_succ_cons, List.take_zero, List.drop_succ_cons, List.drop_zero]
                      repeat (go_big_quiet_step (first | (go_at_call 71; exact HMI.out _)))
                      refine wpQuiet_nil ?_
                      rintro _ ⟨sd, rfl⟩
                      have hb8 := sd.below
                      generalize sd.val = w8 at hb8 ⊢
                      clear d1 d2 d3 d4 hlk2 hlk3
                      obtain ⟨w9, hrun9, hM9, hg9⟩ := (HY.out.2.2.kept (hb8.block _ HY.out.2.2.lt)).store (t := 108) Try.underlying108 (c := !xb) (i := pi) hpi3 (.agg #[.int .i64 lq.num, .int .i64 (lq.den : Int)]) (by omega)
                      have H9 := Lib.hid (And.intro hM9 (And.intro hg9 hb8))
                      clear hM9 hg9 hb8
                      obtain ⟨j1, hj1⟩ : ∃ j1, j = j1 + 1 := ⟨j - 1, by omega⟩
                      go_wp2_with fail
                      go_roundw
                      case rel =>
                        obtain ⟨hM9, hg9, hb8⟩ := H9.out
                        have hs8 := hb8.size
                        have hs9 := hg9.size
                        refine ⟨cc + 1, j1, by omega, by go_num, ?_, ?_, ?_⟩
                        · rw [HK.out.2.1]
                          simp only
                          rw [leftV_upd HK.out.2.2.2.1, ← HLX.out, ← HLQ.out.1, ← HLQ.out.2]
                          exact hM9
                        · rw [HK.out.2.1]
                          simp only
                          refine SpRows.far (w := wy) HY.out.1 fun i hi => ?_
                          have := HRL.out i hi
                          rw [hg9.block _ (by omega) (by intro e; injection e with e; omega)]
                          exact hb8.block _ (by omega)
                        · have hk0 : Kept wm.heap.size (wl.heap.size :: (List.range n).map R) wp w7 := Kept.of_below (HX7.out.2.2.2.2.mono hps) _
                          have hk1 : Kept wm.heap.size (wl.heap.size :: (List.range n).map R) w7 wy := HY.out.2.1.mono (by omega) (fun z hz => .inl (List.mem_cons_of_mem _ hz))
                          have hk2 := (HP.out.2.2.trans hk0).trans hk1
                          exact (hk2.trans (Kept.of_below (hb8.mono hk2.size) _)).grown hg9 (by have := hk2.size; omega) (fun q hq => by injection hq with hq; exact .inl (by rw [← hq]; simp))
                      case measure => simp [intOf]; omega
                  · obtain rfl : j = 0 := by omega
                    have hRlt : ∀ i, i < n → R i < w.heap.size := fun i hi => (HSP.out.blk i hi).lt
                    have hgs : ∀ g, (g < w.heap.size → ∀ i, i < n → R i ≠ g) → g < wl.heap.size → g ∉ wl.heap.size :: (List.range n).map R := fun g h1 h2 hm => by
                      rcases List.mem_cons.1 hm with e | e
                      · omega
                      · obtain ⟨i, hi, e⟩ := List.mem_map.1 e
                        have h3 := hRlt i (List.mem_range.1 hi)
                        exact h1 (by omega) i (List.mem_range.1 hi) e
                    have hcp : ∀ g, (g < w.heap.size → ∀ i, i < n → R i ≠ g) → g < wl.heap.size → wp.heap[g]? = wl.heap[g]? := fun g h1 h2 => (HP.out.2.2.block g (by omega) (hgs g h1 h2)).trans (HM.out.2.block g h2)
                    have hgo3 : go < wl.heap.size := by omega
                    have e1 := (hcp go (fun h => by omega) hgo3).trans (HL.out.2.block go hgo2 (by simp; omega))
                    obtain ⟨n1, n2⟩ := ncells_at _ _ _ HR.out.2.1.hd
                    have x1 := (World.cell?_of_block (w := wf) (a := ⟨go, 0, none⟩) e1).trans (HF1.out.2.2.2.1 _ _ n1)
                    have x2 := (World.cell?_of_block (w := wf) (a := ⟨go, 1, none⟩) e1).trans (HF1.out.2.2.2.1 _ _ n2)
                    dsimp only at x1 x2
                    have hdn : ∀ i, i < n → R i ≠ dm := fun i hi => (HSP.out.rne i hi).2.1
                    have hpn : ∀ i, i < n → R i ≠ PB := fun i hi => (HSP.out.rne i hi).1
                    have hPf := HPQ.out.kept (Kept.of_below (Below.refl _ _) []) hpl (by simp)
                    have hPp : PrB wp PB 77 (psOf k st.don (compPq B st)) := (hcp PB (fun _ => hpn) hpl).trans HPQ.out
                    have hDl : dm < wl.heap.size := by omega
                    have hDf := HF1.out.1.donm
                    have hDp := (hDf.kept ((hcp dm (fun _ => hdn) hDl).trans (HL.out.2.block dm (by omega) (by simp; exact H.out.1.dp)))).mono (n' := N0 + 6) (by omega)
                    have hkl : Kept w.heap.size [dm, PB] w wl := HF1.out.1.kept.trans (HL.out.2.mono hkw (fun z hz => by simp at hz; simp [hz]))
                    have hkm := hkl.trans (Kept.of_below (HM.out.2.mono hkl.size) _)
                    have hkp : Kept w.heap.size (dm :: PB :: (List.range n).map R) w wp := (hkm.mono (Nat.le_refl _) (fun z hz => .inl (by simp at hz ⊢; rcases hz with h | h <;> simp [h]))).trans (HP.out.2.2.mono (by have := hkm.size; omega) (fun z hz => by
                      rcases List.mem_cons.1 hz with e | e
                      · exact .inr (by omega)
                      · exact .inl (List.mem_cons_of_mem _ (List.mem_cons_of_mem _ e))))
                    have hcc : cc = st.ord.length - 1 := by omega
                    have hSp := HP.out.2.1
                    rw [hcc] at hSp
                    have h0m := List.mem_of_getElem? HR.out.2.1.hd
                    obtain ⟨lx, hlx⟩ : ∃ l, l = (compBk B st sp).1 (true, first) := ⟨_, rfl⟩
                    have hlk2 : ∀ s : Desc wp, (Instr.lookup 108 (.map (some wl.heap.size)) (.agg #[.bool true, .int .i64 (first : Int)]) false).run Try.prog s.val = .ok (.agg #[.int .i64 lx.num, .int .i64 (lx.den : Int)]) s.val := fun s => by
                      have h1 := (HP.out.1.kept (s.below.block _ HP.out.1.lt)).look (t := 108) Try.underlying108 (zero_mfrac s.val) (c := true) (i := first) (by omega)
                      rw [leftV_get h0m, hcc] at h1
                      rw [hlx]
                      exact h1
                    have HEND : Hid (∀ w', Below wp.heap.size wp w' → CompPost B V e n k first don pq sp w dm PB N0 R (.returned (.bool (decide (lx = 0)))) w') := Lib.hid fun w' hb => by
                      rw [hlx]
                      exact CompPost.fin HF.out (by rw [← HFI.out.2.1]; exact hb0) (hkp.trans (Kept.of_below (hb.mono hkp.size) _)) (hPp.below hb hPp.lt) (hDp.kept (hb.block _ hDp.lt)) (hSp.far fun i hi => hb.block _ (hSp i hi).lt)
                    have hne := run_eq_mfrac lx 0
                    rw [show (0 : Rat).num = 0 from rfl, show (0 : Rat).den = 1 from rfl, show ((1 : Nat) : Int) = 1 from rfl] at hne
                    have HW8 : Hid (∀ s : Desc wp, Calls Try.prog 47 #[.int .i64 0] s.val fun e w'' => e = .returned (.agg #[.int .i64 0, .int .i64 1]) ∧ ∃ s' : Desc wp, w'' = s'.val) := Lib.hid fun s => Calls.desc_of (by
                      have := mwhole_any 0 s.val
                      rw [fr_int] at this
                      exact this)
                    have d1 : ∀ s : Desc wp, s.val.cell? ⟨go, 0, none⟩ = some (.bool true) := fun s => s.cell x1
                    have d2 : ∀ s : Desc wp, s.val.cell? ⟨go, 1, none⟩ = some (.int .i64 (first : Int)) := fun s => s.cell x2
                    clear x1 x2 hPp hPf hDp hDf hkl hkm hkp hSp hlx hcp hgs hRlt hdn hpn e1 n1 n2 hcc h0m
                    go_wp2_with fail
                    refine wp_region_desc (by kernel_rfl) (by kernel_rfl) ?_
                    repeat (go_big_quiet_step (first | (go_at_call 47; exact HW8.out _)))
                    refine wpQuiet_nil ?_
                    rintro _ ⟨sd, rfl⟩
                    have hb9 := Lib.hid sd.below
                    generalize sd.val = w9 at hb9 ⊢
                    clear d1 d2 hlk2 hne
                    go_wp2_with fail
                    go_ret
                    exact HEND.out _ hb9.out
end Go.Proofs.Ytnljnjnmhbkdoaa
