/- Laws and contracts that the proof of TopRoad uses, part 3. -/
import Derived.Test.YtifmekijdepokaaDoorTopRoadM2
import Derived.Test.YtifmekijdepokaaDoorTopRoadM1
import Derived.Laws.EntriesVeiled
import Derived.Deep.LoopGhost
import Derived.Deep.DeepCutAuto
namespace Go.Proofs.YtifmekijdepokaaDoor
open Go.RowKit

/- Contract: the inner function of first (package route). -/

/-- What grow leaves. -/
def FGrowPost (X : FX) (w : World) (gl : Nat) (l : List Int) (res : Option (List Int)) (e : Ending) (w' : World) : Prop :=
  e = .returned (.bool res.isSome) ∧ ∃ gl' cap', LsB X w' gl' cap' (res.getD l) ∧ (gl' = gl ∨ w.heap.size ≤ gl') ∧ Kept w.heap.size [X.Bl, gl] w w'
theorem lst8p {p : List Int} (h : p.length = 8) : ∃ x0 x1 x2 x3 x4 x5 x6 x7, p = [x0, x1, x2, x3, x4, x5, x6, x7] := by
  match p, h with
  | [x0, x1, x2, x3, x4, x5, x6, x7], _ => exact ⟨x0, x1, x2, x3, x4, x5, x6, x7, rfl⟩
set_option maxRecDepth 100000 in
set_option maxHeartbeats 4000000 in
theorem rgrow_any (X : FX) (hx : X.ok) : ∀ (f i0 gl cap : Nat) (left : Int) (p l : List Int) (w : World), X.n + 1 ≤ i0 + f → i0 ≤ X.n → l.length ≤ i0 → p.length = 8 → (0 ≤ left ∧ left ≤ 100000000) → X.fix w → LsB X w gl cap l →
    Calls Tryd.prog 64 (#[.int .i64 i0, .int .i64 left, .agg (arr p)] ++ X.caps) w (FGrowPost X w gl l (growF X.rs X.s X.K X.long f i0 left p l))
  | 0, i0, gl, cap, left, p, l, w, hf, hi0, _, _, _, _, _ => by omega
  | f + 1, i0, gl, cap, left, p, l, w, hf, hi0, hli, hp8, hlb, hfx, hls => by
    obtain ⟨x0, x1, x2, x3, x4, x5, x6, x7, hpe⟩ := lst8p hp8
    have hn16 : X.n ≤ 16 := by have := (mapOk_iff.1 hx.hv).2.1; have := hx.hl; omega
    have IH := Lib.hid (rgrow_any X hx f)
    obtain ⟨w1, hw1⟩ : ∃ w1, w1 = w.alloc (.cells #[.int .i64 x0, .int .i64 x1, .int .i64 x2, .int .i64 x3, .int .i64 x4, .int .i64 x5, .int .i64 x6, .int .i64 x7] 75) := ⟨_, rfl⟩
    have hb1 : Below w.heap.size w w1 := by rw [hw1]; exact (Below.refl _ _).alloc (Nat.le_refl _) _
    have hPB : Blk w1 w.heap.size 75 (arr [x0, x1, x2, x3, x4, x5, x6, x7]) := by rw [hw1]; exact Blk.new _ _ _ rfl
    have hfx1 := hfx.below hb1
    have hls1 := hls.below hb1
    have hs1 : w1.heap.size = w.heap.size + 1 := by rw [hw1]; simp
    have hbl1 := hls1.box.lt
    have hlo := hx.low
    have hbs := hfx.bs
    have hgll := hls.lt
    have c0 := hls1.box.at1.1
    have c1 := hfx1.lo.at1.1
    have H := Lib.hid (And.intro hx (And.intro hfx1 (And.intro hls1 (And.intro hb1 (And.intro hPB (And.intro hpe hlb))))))
    obtain ⟨j, hj⟩ : ∃ j, j = l.length := ⟨_, rfl⟩
    rw [← hj] at c0 hli
    have HJ := Lib.hid hj
    rw [hpe]
    show Calls Tryd.prog 64 #[.int .i64 i0, .int .i64 left, .agg #[.int .i64 x0, .int .i64 x1, .int .i64 x2, .int .i64 x3, .int .i64 x4, .int .i64 x5, .int .i64 x6, .int .i64 x7], .pointer (some ⟨X.Bl, 0, none⟩), .pointer (some ⟨X.Blo, 0, none⟩), .pointer (some ⟨X.Bm, 0, none⟩), .pointer (some ⟨X.Bs, 0, none⟩), .pointer (some ⟨X.Bc, 0, none⟩), .pointer (some ⟨X.Bg, 0, none⟩)] w _
    rw [← hpe]
    clear hx hfx hfx1 hls hls1 hb1 hPB hpe hp8 hj
    go_enter Tryd.func64, Tryd.ntmps64
    go_upto_region 1 with fail
    rw [← hw1]
    clear hw1
    by_cases hlong : j = X.long
    · have hle : ((j : Int) == (X.long : Int)) = true := by simp; omega
      obtain ⟨m1, m2, _, _⟩ := H.out.2.1.m.at2
      have s1 := H.out.2.1.s.at1.1
      have k1 := H.out.2.1.c.at1.1
      have hgf : growF X.rs X.s X.K X.long (f + 1) i0 left p l = if (treeF X.rs X.s l).2 && decide ((treeF X.rs X.s l).1 = X.K) then some l else none := by
        rw [growF, if_pos (by rw [← HJ.out]; exact hlong)]
      have HGF := Lib.hid hgf
      have HT := Lib.hid (rtree_any X.N X.R X.n X.c X.rs X.s (some ⟨gl, 0, none⟩) j cap l w1 H.out.1.hl H.out.1.hv (H.out.1.hR.below H.out.2.1.bel) H.out.1.hs HJ.out.symm (by omega) H.out.2.2.1.ints (H.out.1.ht.below H.out.2.1.bel H.out.1.h2) (by have := H.out.2.1.bel.size; have := H.out.1.h2; omega))
      clear hgf hlong
      go_wp2_with fail
      refine HT.out.mono ?_
      rintro e w2 ⟨rfl, hb2⟩
      have k1' := (H.out.2.1.c.below hb2 H.out.2.1.c.lt).at1.1
      have hls2 := H.out.2.2.1.below hb2
      have hk2 : Kept w.heap.size [X.Bl, gl] w w2 := Kept.of_below (H.out.2.2.2.1.trans (hb2.mono H.out.2.2.2.1.size)) _
      have H2 := Lib.hid (And.intro hls2 hk2)
      clear hb2 hls2 hk2 HT m1 m2 s1 k1 c0 c1
      obtain ⟨t1, ht1⟩ : ∃ t, t = (treeF X.rs X.s l).1 := ⟨_, rfl⟩
      obtain ⟨t2, ht2⟩ : ∃ t, t = (treeF X.rs X.s l).2 := ⟨_, rfl⟩
      rw [← ht1, ← ht2] at HGF ⊢
      clear ht1 ht2
      cases t2 with
      | false =>
        go_wp2_with fail
        go_ret
        rw [HGF.out]
        exact ⟨rfl, gl, cap, H2.out.1, .inl rfl, H2.out.2⟩
      | true =>
        by_cases hk : t1 = X.K
        · have e1 : (t1 == X.K) = true := by simpa using hk
          have HG2 := Lib.hid (show growF X.rs X.s X.K X.long (f + 1) i0 left p l = some l by rw [HGF.out, decide_eq_true hk]; rfl)
          clear hk
          go_wp2_with fail
          go_ret
          rw [HG2.out]
          exact ⟨ret_bool (by first | rfl | exact e1), gl, cap, H2.out.1, .inl rfl, H2.out.2⟩
        · have e1 : (t1 == X.K) = false := by simpa using hk
          have HG2 := Lib.hid (show growF X.rs X.s X.K X.long (f + 1) i0 left p l = none by rw [HGF.out, decide_eq_false hk]; rfl)
          clear hk
          go_wp2_with fail
          go_ret
          rw [HG2.out]
          exact ⟨ret_bool (by first | rfl | exact e1), gl, cap, H2.out.1, .inl rfl, H2.out.2⟩
    · have hle : ((j : Int) == (X.long : Int)) = false := by simp; omega
      have hgf : growF X.rs X.s X.K X.long (f + 1) i0 left p l = (List.range X.rs.length).findSome? fun i =>
          if i < i0 ∨ pjoinL p (rdN X.rs i).1.toNat (rdN X.rs i).2.1.toNat = p ∨ left < (rdN X.rs i).2.2 then none
          else growF X.rs X.s X.K X.long f (i + 1) (left - (rdN X.rs i).2.2) (pjoinL p (rdN X.rs i).1.toNat (rdN X.rs i).2.1.toNat) (l ++ [(i : Int)]) := by
        rw [growF, if_neg (by rw [← HJ.out]; exact hlong)]
      obtain ⟨F, hF⟩ : ∃ F : Nat → Option (List Int), F = fun i =>
          if i < i0 ∨ pjoinL p (rdN X.rs i).1.toNat (rdN X.rs i).2.1.toNat = p ∨ left < (rdN X.rs i).2.2 then none
          else growF X.rs X.s X.K X.long f (i + 1) (left - (rdN X.rs i).2.2) (pjoinL p (rdN X.rs i).1.toNat (rdN X.rs i).2.1.toNat) (l ++ [(i : Int)]) := ⟨_, rfl⟩
      rw [← hF] at hgf
      have HF := Lib.hid (And.intro hgf hF)
      have hF0 : ∀ t, t < i0 → F t = none := fun t ht => by rw [hF]; exact if_pos (.inl ht)
      have HF0 := Lib.hid hF0
      clear hgf hF hF0 hlong
      go_wp2_with fail
      clear c0 c1
      go_loopw [15] (fun iv wx => ∃ (i gq cq : Nat), i ≤ X.n ∧ i0 ≤ i ∧ iv = .int .i64 i ∧ (∀ t, t < i → F t = none) ∧ LsB X wx gq cq l ∧ (gq = gl ∨ w1.heap.size ≤ gq) ∧ Kept w1.heap.size [X.Bl, gl] w1 wx) (fun iv _ => X.n - (intOf iv).toNat)
      case atStart => exact ⟨i0, gl, cap, hi0, Nat.le_refl _, rfl, HF0.out, H.out.2.2.1, .inl rfl, Kept.refl _ _ _⟩
      case round =>
        obtain ⟨i, gq, cq, hin, hi0i, rfl, hno, hls, hgq, hkp⟩ := hrel
        obtain ⟨wo, rfl⟩ : ∃ wo : World, wo = wr := ⟨_, rfl⟩
        have hfo := H.out.2.1.kept H.out.1 H.out.2.2.1.ge hkp
        have HR := Lib.hid (And.intro hno (And.intro hls (And.intro hkp hfo)))
        have hos := hkp.size
        obtain ⟨m1, m2, _, _⟩ := hfo.m.at2
        clear hno hls hkp hfo
        by_cases hlt : i < X.n
        · obtain ⟨r, hr⟩ : ∃ r, X.rs[i]? = some r := ⟨_, List.getElem?_eq_getElem (by have := H.out.1.hl; omega)⟩
          obtain ⟨aR, hRA, _, hcR⟩ := (H.out.1.hR.below HR.out.2.2.2.bel).some_ (by rw [H.out.1.hl]; omega)
          rw [hRA] at m2
          obtain ⟨q1, q2, q3⟩ := hcR i r hr
          obtain ⟨a, b, ea, eb, ⟨ha, hb⟩, _, _, hc1, hc2⟩ := rd_ok H.out.1.hv hr
          have hrd : rdN X.rs (i : Int) = r := by unfold rdN; rw [Int.toNat_natCast, List.getD_eq_getElem?_getD, hr]; rfl
          have hFi : F i = if i < i0 ∨ pjoinL p r.1.toNat r.2.1.toNat = p ∨ left < r.2.2 then none else growF X.rs X.s X.K X.long f (i + 1) (left - r.2.2) (pjoinL p r.1.toNat r.2.1.toNat) (l ++ [(i : Int)]) := by
            rw [HF.out.2]; show (if _ ∨ _ ∨ _ then _ else _) = _; rw [hrd]
          obtain ⟨r1, r2, cc⟩ := r
          simp only at ea eb hc1 hc2 q1 q2 q3
          subst ea; subst eb
          simp only [Int.toNat_natCast] at hFi
          have hpb : Blk wo w.heap.size 75 (arr [x0, x1, x2, x3, x4, x5, x6, x7]) := H.out.2.2.2.2.1.kept HR.out.2.2.1 (by omega) (by simp; omega)
          obtain ⟨⟨b0, b1, b2, b3, b4, b5, b6, b7⟩, _⟩ := hpb.at8
          obtain ⟨wq, hwq⟩ : ∃ wq, wq = wo.alloc (.cells #[.int .i64 x0, .int .i64 x1, .int .i64 x2, .int .i64 x3, .int .i64 x4, .int .i64 x5, .int .i64 x6, .int .i64 x7] 75) := ⟨_, rfl⟩
          have hbq : Below wo.heap.size wo wq := by rw [hwq]; exact (Below.refl _ _).alloc (Nat.le_refl _) _
          have hqB : Blk wq wo.heap.size 75 (arr p) := by rw [hwq, H.out.2.2.2.2.2.1]; exact Blk.new _ _ _ rfl
          have hqs : wq.heap.size = wo.heap.size + 1 := by rw [hwq]; simp
          have HJN := Lib.hid (prjoin_any wo.heap.size a b cc p wq (by rw [H.out.2.2.2.2.2.1]; rfl) ha hb hqB)
          have q1' := (hbq.cell (lt_of_cell q1)).trans q1
          have q2' := (hbq.cell (lt_of_cell q2)).trans q2
          have q3' := (hbq.cell (lt_of_cell q3)).trans q3
          have m2' := (hbq.cell (lt_of_cell m2)).trans m2
          have HQ := Lib.hid (And.intro hbq (And.intro q1 (And.intro q2 (And.intro q3 (And.intro m2 hFi)))))
          have l1 : (i : Int) < (X.n : Int) := by omega
          have l2 : (0 : Int) ≤ (i : Int) := by omega
          have HRr := Lib.hid hr
          clear hpb hbq hqB hFi hr hcR hrd
          rw [hRA] at *
          go_upto_region 8 with fail
          rw [← hwq]
          clear hwq
          go_wp2_with fail
          refine HJN.out.mono ?_
          rintro e w2 ⟨rfl, hq2, hk2⟩
          obtain ⟨y0, y1, y2, y3, y4, y5, y6, y7, hye⟩ := lst8p (show (pjoinL p a b).length = 8 by rw [pjoinL_length, H.out.2.2.2.2.2.1]; rfl)
          rw [hye] at hq2
          have hb2 : Below wo.heap.size wo w2 := HQ.out.1.trans (hk2.mono (B' := wo.heap.size) (S' := []) (by omega) (fun x hx => by simp at hx; right; omega)).below
          obtain ⟨⟨z0, z1, z2, z3, z4, z5, z6, z7⟩, _⟩ := hq2.at8
          have b0' := (hb2.cell (lt_of_cell b0)).trans b0
          have b1' := (hb2.cell (lt_of_cell b1)).trans b1
          have b2' := (hb2.cell (lt_of_cell b2)).trans b2
          have b3' := (hb2.cell (lt_of_cell b3)).trans b3
          have b4' := (hb2.cell (lt_of_cell b4)).trans b4
          have b5' := (hb2.cell (lt_of_cell b5)).trans b5
          have b6' := (hb2.cell (lt_of_cell b6)).trans b6
          have b7' := (hb2.cell (lt_of_cell b7)).trans b7
          have n2 := (hb2.cell (lt_of_cell HQ.out.2.2.2.2.1)).trans HQ.out.2.2.2.2.1
          have p1 := (hb2.cell (lt_of_cell HQ.out.2.1)).trans HQ.out.2.1
          have p2 := (hb2.cell (lt_of_cell HQ.out.2.2.1)).trans HQ.out.2.2.1
          have p3 := (hb2.cell (lt_of_cell HQ.out.2.2.2.1)).trans HQ.out.2.2.2.1
          have hw2s := hb2.size
          have hq2l := hq2.lt
          have H2 := Lib.hid (And.intro hb2 (And.intro hq2 hye))
          clear hb2 hq2 hk2 hye b0 b1 b2 b3 b4 b5 b6 b7 q1 q2 q3 q1' q2' q3' m1 m2 m2' HJN
          have heq := run_eq_parts y0 y1 y2 y3 y4 y5 y6 y7 x0 x1 x2 x3 x4 x5 x6 x7
          rw [← H2.out.2.2, ← H.out.2.2.2.2.2.1] at heq
          have hFi := HQ.out.2.2.2.2.2
          by_cases hsame : pjoinL p a b = p
          · have HN : Hid (F i = none) := Lib.hid (by rw [hFi, if_pos (.inr (.inl hsame))])
            rw [decide_eq_true hsame] at heq
            have hls2 := HR.out.2.1.below H2.out.1
            have hkp2 : Kept w1.heap.size [X.Bl, gl] w1 w2 := HR.out.2.2.1.trans (Kept.of_below (H2.out.1.mono hos) _)
            have HS := Lib.hid (And.intro hls2 hkp2)
            clear hsame hFi hls2 hkp2
            go_wp2_with fail
            go_roundw
            case rel =>
              refine ⟨i + 1, gq, cq, by omega, by omega, by go_num, fun t ht => ?_, HS.out.1, hgq, HS.out.2⟩
              rcases Nat.lt_succ_iff_lt_or_eq.1 ht with h | h
              · exact HR.out.1 t h
              · rw [h]; exact HN.out
            case measure => simp [intOf]; omega
          · rw [decide_eq_false hsame] at heq
            by_cases hdear : left < cc
            · have HN : Hid (F i = none) := Lib.hid (by rw [hFi, if_pos (.inr (.inr hdear))])
              have hls2 := HR.out.2.1.below H2.out.1
              have hkp2 : Kept w1.heap.size [X.Bl, gl] w1 w2 := HR.out.2.2.1.trans (Kept.of_below (H2.out.1.mono hos) _)
              have HS := Lib.hid (And.intro hls2 hkp2)
              clear hsame hFi hls2 hkp2
              go_wp2_with fail
              go_roundw
              case rel =>
                refine ⟨i + 1, gq, cq, by omega, by omega, by go_num, fun t ht => ?_, HS.out.1, hgq, HS.out.2⟩
                rcases Nat.lt_succ_iff_lt_or_eq.1 ht with h | h
                · exact HR.out.1 t h
                · rw [h]; exact HN.out
              case measure => simp [intOf]; omega
            · have HN : Hid (F i = growF X.rs X.s X.K X.long f (i + 1) (left - cc) (pjoinL p a b) (l ++ [(i : Int)])) := Lib.hid (by rw [hFi, if_neg (by rintro (h | h | h); omega; exact hsame h; exact hdear h)])
              have hls2 := HR.out.2.1.below H2.out.1
              have hfx2 := HR.out.2.2.2.below H2.out.1
              have hkp2 : Kept w1.heap.size [X.Bl, gl] w1 w2 := HR.out.2.2.1.trans (Kept.of_below (H2.out.1.mono hos) _)
              have hB2 := hls2.box.at1
              have hown2 := hls2.own
              rw [← HJ.out] at hB2 hown2
              obtain ⟨o1, o2⟩ := hB2
              have HS := Lib.hid (And.intro hls2 (And.intro hfx2 (And.intro hkp2 hown2)))
              have hbs2 : X.top ≤ w2.heap.size := hfx2.bs
              have hgql := hls2.lt
              have hgqb := hls2.ge
              clear hsame hFi hls2 hfx2 hkp2 hown2
              go_upto_region 10 with fail
              go_wp2_with (at_builtin; refine app1w sty_int rfl _ _ rfl X.base (some ⟨gq, 0, none⟩) j cq _ (.int .i64 (i : Int)) (by simp [Value.oneCell']) rfl HS.out.2.2.2 w2.heap.size rfl rfl (by omega) (by omega) ?_)
              intro A3 k3 w3 hown3 hg3 hbl3 hk31 hk32 hst3
              obtain ⟨g3, rfl, hg3b, hg3l⟩ := own_some hown3 (by omega)
              have hs3 := hg3.size
              have o3 := (HS.out.1.box.grown hg3 (fun h3 => by injection h3 with h3; have h3' : X.Bl = gq := h3; have := HS.out.1.ge; omega)).at1
              have hgg : g3 = gq ∨ w2.heap.size ≤ g3 := by
                rcases hst3 _ _ _ rfl with ⟨n1, k1, h⟩ | h
                · injection h with h _ _
                  injection h with h
                  injection h with h
                  exact .inl h.symm
                · exact .inr h
              have hge3 : g3 = X.g0 ∨ X.top ≤ g3 := by have := HS.out.1.ge; omega
              obtain ⟨w4, hw4⟩ : ∃ w4, w4 = w3.setCell ⟨X.Bl, 0, none⟩ (.slice (some ⟨g3, 0, none⟩) (j + 1) k3) := ⟨_, rfl⟩
              have hfx4 : X.fix w4 := by rw [hw4]; exact HS.out.2.1.app H.out.1 HS.out.1.ge hbl3 hg3 _
              have hls4 : LsB X w4 g3 k3 (l ++ [(i : Int)]) := by
                rw [hw4, HJ.out]
                rw [HJ.out] at hown3
                exact HS.out.1.app H.out.1 (i : Int) hg3 hown3 hge3
              have hkp4 : Kept w1.heap.size [X.Bl, gl] w1 w4 := by
                rw [hw4]
                refine ((HS.out.2.2.1.grown hg3 (by have := HS.out.2.2.1.size; omega) (fun k hk => ?_)).setCell (.inl (by simp)) _)
                injection hk with hk
                have hk' : gq = k := hk
                rcases hgq with h | h
                · exact .inl (by rw [← hk', h]; simp)
                · exact .inr (by omega)
              have hq4 : Blk w4 wo.heap.size 75 (arr [y0, y1, y2, y3, y4, y5, y6, y7]) := by
                rw [hw4]
                refine (H2.out.2.1.grown hg3 (fun h => ?_)).far (by show wo.heap.size ≠ X.Bl; omega) _
                injection h with h
                have h' : wo.heap.size = gq := h
                have := HR.out.2.1.lt
                omega
              have hs4 : w4.heap.size = w3.heap.size := by rw [hw4]; simp [World.setCell]
              have hw24 : w2.heap.size ≤ w4.heap.size := by omega
              have hw14 : w1.heap.size ≤ w4.heap.size := by omega
              have hg34 : g3 = gl ∨ w1.heap.size ≤ g3 := by omega
              have HW := Lib.hid (And.intro hw24 (And.intro hw14 hg34))
              have H4 := Lib.hid (And.intro hfx4 (And.intro hls4 (And.intro hkp4 hq4)))
              clear hown3 hg3 hbl3 hst3 o1 o2 hfx4 hls4 hkp4 hq4 z0 z1 z2 z3 z4 z5 z6 z7 b0' b1' b2' b3' b4' b5' b6' b7' n2 p1 p2 p3 heq
              go_upto_region 11 with fail
              rw [← hw4]
              clear hw4 o3
              obtain ⟨m1, m2, _, _⟩ := H4.out.1.m.at2
              have g1 := H4.out.1.g.at1.1
              unfold FX.caps at g1
              obtain ⟨⟨z0, z1, z2, z3, z4, z5, z6, z7⟩, _⟩ := H4.out.2.2.2.at8
              obtain ⟨aR4, hRA4, _, hcR4⟩ := (H.out.1.hR.below H4.out.1.bel).some_ (by rw [H.out.1.hl]; omega)
              rw [hRA4] at m2
              obtain ⟨_, _, q3⟩ := hcR4 i _ HRr.out
              simp only at q3
              obtain ⟨res, hres⟩ : ∃ res, res = growF X.rs X.s X.K X.long f (i + 1) (left - cc) (pjoinL p a b) (l ++ [(i : Int)]) := ⟨_, rfl⟩
              have hrec : ∀ k : Nat, Calls Tryd.prog 64 #[.int .i64 ((i : Int) + 1), .int .i64 (left - cc), .agg #[.int .i64 y0, .int .i64 y1, .int .i64 y2, .int .i64 y3, .int .i64 y4, .int .i64 y5, .int .i64 y6, .int .i64 y7], .pointer (some ⟨X.Bl, 0, none⟩), .pointer (some ⟨X.Blo, 0, none⟩), .pointer (some ⟨X.Bm, 0, none⟩), .pointer (some ⟨X.Bs, 0, none⟩), .pointer (some ⟨X.Bc, 0, none⟩), .pointer (some ⟨X.Bg, 0, none⟩)] (w4.drewN k) (FGrowPost X (w4.drewN k) g3 (l ++ [(i : Int)]) res) := fun k => by
                have h := IH.out (i + 1) g3 k3 (left - cc) (pjoinL p a b) (l ++ [(i : Int)]) (w4.drewN k) (by omega) (by omega) (by rw [List.length_append, ← HJ.out]; show j + 1 ≤ i + 1; omega) (by rw [pjoinL_length, H.out.2.2.2.2.2.1]; rfl) (by have := H.out.2.2.2.2.2.2; omega) (H4.out.1.drewN k) (H4.out.2.1.drewN k)
                rw [← hres, H2.out.2.2, show ((i + 1 : Nat) : Int) = (i : Int) + 1 by push_cast; rfl] at h
                exact h
              have HREC := Lib.hid hrec
              have HNR := Lib.hid (show F i = res by rw [HN.out, hres])
              have ew : wrap64 (left - cc) = left - cc := by have := H.out.2.2.2.2.2.2; unfold wrap64; omega
              clear hrec hres hcR4
              refine wp_region_drew_tail 12 (by kernel_rfl) (by kernel_rfl) ?_
              simp only [List.take_succ_cons, List.take_zero, List.drop_succ_cons, List.drop_zero]
              repeat (go_big_quiet_step (fail))
              refine wpQuiet_nil ?_
              rintro _ ⟨nq, rfl⟩
              go_wp2_with fail
              refine (HREC.out nq).mono ?_
              rintro e w5 ⟨rfl, g5, k5, hls5, hg5, hk5⟩
              have hg5' : g5 = gl ∨ w1.heap.size ≤ g5 := by
                have e4 : (w4.drewN nq).heap.size = w4.heap.size := rfl
                have := HW.out
                rw [e4] at hg5
                omega
              have hkp5 : Kept w1.heap.size [X.Bl, gl] w1 w5 := (H4.out.2.2.1.drewN nq).trans (hk5.mono (by show w1.heap.size ≤ w4.heap.size; exact HW.out.2.1) (fun x hx => by
                have := HW.out.2.2
                simp only [List.mem_cons, List.not_mem_nil, or_false] at hx ⊢
                omega))
              have H5 := Lib.hid (And.intro hls5 (And.intro hg5' hkp5))
              clear hls5 hg5 hk5 hg5' hkp5 m1 m2 g1 z0 z1 z2 z3 z4 z5 z6 z7 q3 HREC
              cases res with
              | some l2 =>
                have HG : Hid (growF X.rs X.s X.K X.long (f + 1) i0 left p l = some l2) := Lib.hid (by rw [HF.out.1]; exact rfs_some HR.out.1 HNR.out _ (by rw [H.out.1.hl]; exact hlt))
                simp only [Option.isSome]
                go_wp2_with fail
                go_ret
                rw [HG.out]
                exact ⟨rfl, g5, k5, H5.out.1, by have := H5.out.2.1; omega, (Kept.of_below H.out.2.2.2.1 _).trans (H5.out.2.2.mono (by omega) (fun x hx => .inl hx))⟩
              | none =>
                have hB5 := H5.out.1.box.at1
                simp only [Option.getD_none, List.length_append, List.length_cons, List.length_nil, Nat.zero_add] at hB5
                rw [← HJ.out] at hB5
                obtain ⟨u1, u2⟩ := hB5
                have hpop : LsB X (w5.setCell ⟨X.Bl, 0, none⟩ (.slice (some ⟨g5, 0, none⟩) j k5)) g5 k5 l := by
                  have h := H5.out.1
                  simp only [Option.getD_none] at h
                  have h2 := h.pop H.out.1
                  rwa [← HJ.out] at h2
                have hcap : j + 1 ≤ k5 := by
                  have h := H5.out.1.own
                  simp only [Option.getD_none] at h
                  obtain ⟨_, _, he, h1, _, _⟩ := own_form h
                  injection he with _ _ he
                  rw [← he, List.length_append, ← HJ.out] at h1
                  exact h1
                have HP := Lib.hid (And.intro hpop (H5.out.2.2.setCell (p := ⟨X.Bl, 0, none⟩) (.inl (by simp)) (.slice (some ⟨g5, 0, none⟩) j k5)))
                have e6 : wrap64 ((j : Int) + 1 - 1) = (j : Int) := by unfold wrap64; omega
                have e7 : (j : Int) + 1 - 1 = (j : Int) := by omega
                have l5 : (j : Int) ≤ (k5 : Int) := by omega
                have l6 : (0 : Int) ≤ (j : Int) := by omega
                clear hpop
                simp only [Option.isSome]
                go_wp2_with fail
                go_roundw
                case rel =>
                  refine ⟨i + 1, g5, k5, by omega, by omega, by go_num, fun t ht => ?_, HP.out.1, H5.out.2.1, HP.out.2⟩
                  rcases Nat.lt_succ_iff_lt_or_eq.1 ht with h | h
                  · exact HR.out.1 t h
                  · rw [h]; exact HNR.out
                case measure => simp [intOf]; omega
        · obtain rfl : i = X.n := by omega
          have HG : Hid (growF X.rs X.s X.K X.long (f + 1) i0 left p l = none) := Lib.hid (by rw [HF.out.1, H.out.1.hl]; exact rfs_none HR.out.1)
          go_wp2_with fail
          go_ret
          rw [HG.out]
          exact ⟨rfl, gq, cq, HR.out.2.1, by omega, (Kept.of_below H.out.2.2.2.1 _).trans (HR.out.2.2.1.mono (by omega) (fun x hx => .inl hx))⟩

/- Contract: first of package route, where some number of roads is enough. -/

/-- The number in the variable that a value points to. -/
def lngOf (v : Value) (w : World) : Nat := match v with
  | .pointer (some a) => ((w.cell? a).map fun u => (intOf u).toNat).getD 0
  | _ => 0
/-- What first finds with so many roads. -/
def firF (rs : List Rd) (s : Nat) (K : Int) (long : Nat) : Option (List Int) := growF rs s K long (rs.length + 1) 0 K p8 []
set_option maxRecDepth 100000 in
set_option maxHeartbeats 3200000 in
theorem rfirst_any (N : Int) (R : Option Addr) (n c : Nat) (rs : List Rd) (s : Nat) (K : Int) (M : Nat) (w : World) (hl : rs.length = n) (hv : mapOk N rs = true) (hR : Rds w R rs) (hs : 1 ≤ s ∧ s < 256) (hK : 0 ≤ K ∧ K ≤ 100000000) (ht : TabW w) (h2 : 2 ≤ w.heap.size)
    (hM : M ≤ 1000000) (hfound : (firF rs s K M).isSome = true) :
    Calls Tryd.prog 44 #[mapV N R n c, .int .i64 s, .int .i64 K] w fun e w' => ∃ (long : Nat) (l : List Int) (A : Option Addr) (cap : Nat), firF rs s K long = some l ∧ e = .returned (.slice A l.length cap) ∧ l.length ≤ cap ∧ cap ≤ 9223372036854775807 ∧ Ints w' A l ∧ Below w.heap.size w w' := by
  obtain ⟨w1, hw1⟩ : ∃ w1, w1 = (((w.alloc (.cells #[.int .i64 N, .slice R n c] 26)).alloc (.cells #[.int .i64 s] 3)).alloc (.cells #[.int .i64 K] 3)).alloc (.cells #[.int .i64 0] 3) := ⟨_, rfl⟩
  have hb1 : Below w.heap.size w w1 := by rw [hw1]; exact ((((Below.refl _ _).alloc (Nat.le_refl _) _).alloc (by simp) _).alloc (by simp; omega) _).alloc (by simp; omega) _
  have hBm : Blk w1 w.heap.size 26 #[.int .i64 N, .slice R n c] := by rw [hw1]; exact (((Blk.new _ _ _ rfl).alloc _).alloc _).alloc _
  have hBs : Blk w1 (w.heap.size + 1) 3 #[.int .i64 s] := by rw [hw1]; exact ((Blk.new _ _ _ (by simp)).alloc _).alloc _
  have hBc : Blk w1 (w.heap.size + 2) 3 #[.int .i64 K] := by rw [hw1]; exact (Blk.new _ _ _ (by simp)).alloc _
  have hBl : Blk w1 (w.heap.size + 3) 3 #[.int .i64 0] := by rw [hw1]; exact Blk.new _ _ _ (by simp)
  have hs1 : w1.heap.size = w.heap.size + 4 := by rw [hw1]; simp
  have H := Lib.hid (And.intro hl (And.intro hv (And.intro hR (And.intro ht (And.intro hb1 (And.intro hBm (And.intro hBs (And.intro hBc hBl))))))))
  have HS1 := Lib.hid hs1
  have HFO := Lib.hid hfound
  clear hl hv hR ht hb1 hBm hBs hBc hBl hs1 hfound
  go_enter Tryd.func44, Tryd.ntmps44
  go_upto_region 3 with fail
  rw [← hw1]
  clear hw1
  go_loopw [7] (fun bv wx => ∃ (long bl : Nat), bv = .pointer (some ⟨bl, 0, none⟩) ∧ Blk wx bl 3 #[.int .i64 long] ∧ (∀ t, t < long → firF rs s K t = none) ∧ Blk wx w.heap.size 26 #[.int .i64 N, .slice R n c] ∧ Blk wx (w.heap.size + 1) 3 #[.int .i64 s] ∧ Blk wx (w.heap.size + 2) 3 #[.int .i64 K] ∧ w.heap.size + 3 ≤ bl ∧ Below w.heap.size w wx) (fun bv wx => M - lngOf bv wx)
  case atStart => exact ⟨0, w.heap.size + 3, rfl, H.out.2.2.2.2.2.2.2.2, fun t ht => by omega, H.out.2.2.2.2.2.1, H.out.2.2.2.2.2.2.1, H.out.2.2.2.2.2.2.2.1, Nat.le_refl _, H.out.2.2.2.2.1⟩
  case round =>
    obtain ⟨long, bl, rfl, hBl, hno, hBm, hBs, hBc, hbl3, hbel⟩ := hrel
    obtain ⟨wo, rfl⟩ : ∃ wo : World, wo = wr := ⟨_, rfl⟩
    have hblt := hBl.lt
    have hlM : long ≤ M := by
      rcases Nat.lt_or_ge M long with h | h
      · have := HFO.out
        rw [hno M h] at this
        cases this
      · exact h
    have hws := hbel.size
    obtain ⟨w3, hw3⟩ : ∃ w3, w3 = ((wo.alloc (.cells #[] 3)).alloc (.cells #[.slice (some ⟨wo.heap.size, 0, none⟩) 0 0] 22)).alloc (.cells #[.func (.func 64) #[] #[.pointer (some ⟨wo.heap.size + 1, 0, none⟩), .pointer (some ⟨bl, 0, none⟩), .pointer (some ⟨w.heap.size, 0, none⟩), .pointer (some ⟨w.heap.size + 1, 0, none⟩), .pointer (some ⟨w.heap.size + 1 + 1, 0, none⟩), .pointer (some ⟨wo.heap.size + 1 + 1, 0, none⟩)]] 96) := ⟨_, rfl⟩
    have hb3 : Below wo.heap.size wo w3 := by rw [hw3]; exact (((Below.refl _ _).alloc (Nat.le_refl _) _).alloc (by simp) _).alloc (by simp; omega) _
    have hs3 : w3.heap.size = wo.heap.size + 3 := by rw [hw3]; simp
    obtain ⟨X, hX⟩ : ∃ X : FX, X = { W0 := w, N := N, R := R, n := n, c := c, rs := rs, s := s, K := K, long := long, Bl := wo.heap.size + 1, Blo := bl, Bm := w.heap.size, Bs := w.heap.size + 1, Bc := w.heap.size + 2, Bg := wo.heap.size + 2, base := wo.heap.size, g0 := wo.heap.size, top := wo.heap.size + 3 } := ⟨_, rfl⟩
    have hok : X.ok := by
      rw [hX]
      exact {
        hl := H.out.1, hv := H.out.2.1, hR := H.out.2.2.1, ht := H.out.2.2.2.1, h2 := h2, hs := hs
        low := by show w.heap.size ≤ wo.heap.size + 1 ∧ wo.heap.size + 1 < wo.heap.size + 3 ∧ wo.heap.size + 1 ≠ wo.heap.size ∧ w.heap.size ≤ wo.heap.size ∧ wo.heap.size ≤ wo.heap.size ∧ wo.heap.size < wo.heap.size + 3; omega
        ne := by show bl ≠ wo.heap.size + 1 ∧ w.heap.size ≠ wo.heap.size + 1 ∧ w.heap.size + 1 ≠ wo.heap.size + 1 ∧ w.heap.size + 2 ≠ wo.heap.size + 1 ∧ wo.heap.size + 2 ≠ wo.heap.size + 1; refine ⟨?_, ?_, ?_, ?_, ?_⟩ <;> omega
        lt := by show bl < wo.heap.size + 3 ∧ w.heap.size < wo.heap.size + 3 ∧ w.heap.size + 1 < wo.heap.size + 3 ∧ w.heap.size + 2 < wo.heap.size + 3 ∧ wo.heap.size + 2 < wo.heap.size + 3; omega
        ng := by show bl ≠ wo.heap.size ∧ w.heap.size ≠ wo.heap.size ∧ w.heap.size + 1 ≠ wo.heap.size ∧ w.heap.size + 2 ≠ wo.heap.size ∧ wo.heap.size + 2 ≠ wo.heap.size; refine ⟨?_, ?_, ?_, ?_, ?_⟩ <;> omega }
    have hfx : X.fix w3 := by
      rw [hX]
      exact ⟨hBl.below hb3 hBl.lt, hBm.below hb3 hBm.lt, hBs.below hb3 hBs.lt, hBc.below hb3 hBc.lt, by rw [hw3]; exact Blk.new _ _ _ (by simp), hbel.trans (hb3.mono hws), by show wo.heap.size + 3 ≤ w3.heap.size; omega⟩
    have hg0 : Blk w3 wo.heap.size 3 #[] := by rw [hw3]; exact ((Blk.new _ _ _ rfl).alloc _).alloc _
    have hls : LsB X w3 wo.heap.size 0 [] := by
      rw [hX]
      refine ⟨by rw [hw3]; exact (Blk.new _ _ _ (by simp)).alloc _, ⟨rfl, .inr ⟨wo.heap.size, 0, #[], rfl, Nat.le_refl _, hg0, by simp, by unfold maxLen; omega, by simp, by simp⟩⟩, .inl rfl⟩
    have hres : firF rs s K long = growF X.rs X.s X.K X.long (n + 1) 0 K p8 [] := by rw [hX]; unfold firF; rw [H.out.1]
    have HL0 := Lib.hid hBl.at1.1
    have HX := Lib.hid (And.intro hok (And.intro hfx (And.intro hls (And.intro hX hres))))
    have HR := Lib.hid (And.intro hno (And.intro hBm (And.intro hBs (And.intro hBc (And.intro hbel hb3)))))
    have kc := (hBc.below hb3 hBc.lt).at1.1
    have kg : w3.cell? ⟨wo.heap.size + 1 + 1, 0, none⟩ = some (.func (.func 64) #[] #[.pointer (some ⟨wo.heap.size + 1, 0, none⟩), .pointer (some ⟨bl, 0, none⟩), .pointer (some ⟨w.heap.size, 0, none⟩), .pointer (some ⟨w.heap.size + 1, 0, none⟩), .pointer (some ⟨w.heap.size + 1 + 1, 0, none⟩), .pointer (some ⟨wo.heap.size + 1 + 1, 0, none⟩)]) := by
      rw [hw3]
      exact (Blk.new (g := wo.heap.size + 1 + 1) _ 96 _ (by simp)).at1.1
    have d1 : ∀ sd : Desc w3, sd.val.cell? ⟨w.heap.size + 1 + 1, 0, none⟩ = some (.int .i64 K) := fun sd => sd.cell kc
    have d2 := fun sd : Desc w3 => sd.cell kg
    have HAP : Hid (∀ sd : Desc w3, Calls Tryd.prog 33 #[] sd.val fun e w'' => e = .returned (ptV p8) ∧ ∃ s' : Desc w3, w'' = s'.val) := Lib.hid fun sd => Calls.desc_of (rapart_any sd.val)
    clear hok hfx hls hX hres hno hBm hBs hBc hbel hb3 hg0 hBl kc kg
    go_upto_region 6 with fail
    rw [← hw3]
    clear hw3
    refine wp_region_desc_tail 3 (by kernel_rfl) (by kernel_rfl) ?_
    simp only [List.take_succ_cons, List.take_zero, List.drop_succ_cons, List.drop_zero]
    repeat (go_big_quiet_step (first | (go_at_call 33; exact HAP.out _)))
    refine wpQuiet_nil ?_
    rintro _ ⟨sd, rfl⟩
    have hb4 := sd.below
    generalize sd.val = w4 at hb4 ⊢
    clear d1 d2
    rw [ptV_p8]
    have hX := HX.out.2.2.2.1
    have hXn : X.n = n := by rw [hX]
    have hcall : Calls Tryd.prog 64 #[.int .i64 0, .int .i64 K, .agg #[.int .i64 0, .int .i64 1, .int .i64 2, .int .i64 3, .int .i64 4, .int .i64 5, .int .i64 6, .int .i64 7], .pointer (some ⟨wo.heap.size + 1, 0, none⟩), .pointer (some ⟨bl, 0, none⟩), .pointer (some ⟨w.heap.size, 0, none⟩), .pointer (some ⟨w.heap.size + 1, 0, none⟩), .pointer (some ⟨w.heap.size + 1 + 1, 0, none⟩), .pointer (some ⟨wo.heap.size + 1 + 1, 0, none⟩)] w4 (FGrowPost X w4 wo.heap.size [] (firF rs s K long)) := by
      have h := rgrow_any X HX.out.1 (n + 1) 0 wo.heap.size 0 K p8 [] w4 (by omega) (by omega) (Nat.le_refl _) rfl hK (HX.out.2.1.below hb4) (HX.out.2.2.1.below hb4)
      rw [← HX.out.2.2.2.2] at h
      have hc : X.caps = #[.pointer (some ⟨wo.heap.size + 1, 0, none⟩), .pointer (some ⟨bl, 0, none⟩), .pointer (some ⟨w.heap.size, 0, none⟩), .pointer (some ⟨w.heap.size + 1, 0, none⟩), .pointer (some ⟨w.heap.size + 1 + 1, 0, none⟩), .pointer (some ⟨wo.heap.size + 1 + 1, 0, none⟩)] := by rw [hX]; rfl
      rw [hc] at h
      exact h
    have HC := Lib.hid hcall
    have hw4s := hb4.size
    have HB4 := Lib.hid hb4
    have hXB : X.Bl = wo.heap.size + 1 ∧ X.g0 = wo.heap.size ∧ X.top = wo.heap.size + 3 ∧ X.Blo = bl ∧ X.Bm = w.heap.size ∧ X.Bs = w.heap.size + 1 ∧ X.Bc = w.heap.size + 2 := by rw [hX]; exact ⟨rfl, rfl, rfl, rfl, rfl, rfl, rfl⟩
    have hXV : X.N = N ∧ X.R = R ∧ X.c = c ∧ X.s = s ∧ X.K = K ∧ X.long = long := by rw [hX]; exact ⟨rfl, rfl, rfl, rfl, rfl, rfl⟩
    have HXB := Lib.hid (And.intro hXB (And.intro hXn hXV))
    clear hcall hb4 hX hXn hXB hXV
    go_wp2_with fail
    refine HC.out.mono ?_
    rintro e w5 ⟨rfl, g5, k5, hls5, hg5, hk5⟩
    obtain ⟨⟨b1, b2, b3, b4, b5, b6, b7⟩, v1, v2, v3, v4, v5, v6, v7⟩ := HXB.out
    have hfx5 := (HX.out.2.1.below HB4.out).kept HX.out.1 (.inl b2.symm) (by rw [← b2] at hk5; rw [← b2]; exact hk5)
    have hbel5 : Below w.heap.size w w5 := by
      have h1 := HR.out.2.2.2.2.1.trans (HR.out.2.2.2.2.2.mono hws)
      have h2 : Below w.heap.size w w4 := h1.trans (HB4.out.mono (by omega))
      refine h2.trans (hk5.mono (B' := w.heap.size) (S' := []) h2.size (fun x hx => ?_)).below
      simp only [List.mem_cons, List.not_mem_nil, or_false] at hx
      right
      omega
    have hlo5 := hfx5.lo
    have hm5 := hfx5.m
    have hs5 := hfx5.s
    have hc5 := hfx5.c
    rw [b4, v7] at hlo5
    rw [b5, v2, v3, v1, v4] at hm5
    rw [b6, v5] at hs5
    rw [b7, v6] at hc5
    have hbx := hls5.box
    rw [b1] at hbx
    have hI5 := hls5.ints
    have hcp5 : (Option.getD (firF rs s K long) []).length ≤ k5 ∧ k5 ≤ 9223372036854775807 := by
      obtain ⟨_, _, he, h1, h2, _⟩ := own_form hls5.own
      injection he with _ _ he
      rw [← he] at h1 h2
      exact ⟨h1, h2⟩
    have H5 := Lib.hid (And.intro hlo5 (And.intro hm5 (And.intro hs5 (And.intro hc5 (And.intro hbel5 (And.intro hbx (And.intro hI5 hcp5)))))))
    clear hlo5 hm5 hs5 hc5 hbel5 hbx hI5 hcp5 hfx5 hls5 hg5 hk5 b1 b2 b3 b4 b5 b6 b7 v1 v2 v3 v4 v5 v6 v7 HC
    cases hres : firF rs s K long with
    | some l =>
      rw [hres] at H5
      have HRS := Lib.hid hres
      clear hres
      obtain ⟨x1, _⟩ := H5.out.2.2.2.2.2.1.at1
      simp only [Option.getD_some] at x1
      simp only [Option.isSome]
      go_wp2_with fail
      go_ret
      exact ⟨long, l, some ⟨g5, 0, none⟩, k5, HRS.out, rfl, H5.out.2.2.2.2.2.2.2.1, H5.out.2.2.2.2.2.2.2.2, H5.out.2.2.2.2.2.2.1, H5.out.2.2.2.2.1⟩
    | none =>
      have HRS := Lib.hid hres
      rw [hres] at H5
      have hlM2 : long < M := by
        rcases Nat.lt_or_ge long M with h | h
        · exact h
        · have e : long = M := by omega
          have := HFO.out
          rw [← e, hres] at this
          cases this
      clear hres
      have hl1 := H5.out.1.at1.1
      have e1 : wrap64 ((long : Int) + 1) = (long : Int) + 1 := by unfold wrap64; omega
      have hbw5 := H5.out.2.2.2.2.1.size
      have hge3 : w.heap.size + 3 ≤ w5.heap.size := by have := H5.out.2.2.2.1.lt; omega
      obtain ⟨w6, hw6⟩ : ∃ w6, w6 = w5.alloc (.cells #[.int .i64 ((long : Int) + 1)] 3) := ⟨_, rfl⟩
      have hnb : Blk w6 w5.heap.size 3 #[.int .i64 ((long + 1 : Nat) : Int)] := by
        rw [hw6, show ((long + 1 : Nat) : Int) = (long : Int) + 1 by push_cast; rfl]
        exact Blk.new _ _ _ rfl
      have HN := Lib.hid (And.intro hnb (And.intro (show Blk w6 w.heap.size 26 #[.int .i64 N, .slice R n c] by rw [hw6]; exact H5.out.2.1.alloc _) (And.intro (show Blk w6 (w.heap.size + 1) 3 #[.int .i64 s] by rw [hw6]; exact H5.out.2.2.1.alloc _) (And.intro (show Blk w6 (w.heap.size + 2) 3 #[.int .i64 K] by rw [hw6]; exact H5.out.2.2.2.1.alloc _) (show Below w.heap.size w w6 by rw [hw6]; exact H5.out.2.2.2.2.1.alloc hbw5 _)))))
      clear hnb
      simp only [Option.isSome]
      go_wp2_with fail
      rw [← hw6]
      clear hw6
      go_roundw
      case rel =>
        refine ⟨long + 1, w5.heap.size, rfl, HN.out.1, fun t ht => ?_, HN.out.2.1, HN.out.2.2.1, HN.out.2.2.2.1, hge3, HN.out.2.2.2.2⟩
        rcases Nat.lt_succ_iff_lt_or_eq.1 ht with h | h
        · exact HR.out.1 t h
        · rw [h]; exact HRS.out
      case measure =>
        have h1 : lngOf (.pointer (some ⟨w5.heap.size, 0, none⟩)) w6 = long + 1 := by
          unfold lngOf
          simp only [HN.out.1.at1.1, Option.map_some, Option.getD_some, intOf, Int.toNat_natCast]
        have h2 : lngOf (.pointer (some ⟨bl, 0, none⟩)) wo = long := by
          unfold lngOf
          simp only [HL0.out, Option.map_some, Option.getD_some, intOf, Int.toNat_natCast]
        rw [h1, h2]
        omega

/- Contracts: Tree of package route, least of the top's laws. -/

set_option maxRecDepth 100000 in
set_option maxHeartbeats 1600000 in
theorem rTree_any (N : Nat) (R : Option Addr) (n c : Nat) (rs : List Rd) (s M : Nat) (w : World) (hl : rs.length = n) (hv : mapOk (N : Int) rs = true) (hR : Rds w R rs) (hs : 1 ≤ s ∧ s < 2 ^ N) (ht : TabW w) (h2 : 2 ≤ w.heap.size)
    (hreach : connB (reP rs) s = true) (hK : 0 ≤ steF rs N s ∧ steF rs N s ≤ 100000000) (hM : M ≤ 1000000) (hfound : (firF rs s (steF rs N s) M).isSome = true) :
    Calls Tryd.prog 18 #[mapV N R n c, .int .i64 s] w fun e w' => ∃ (long : Nat) (l : List Int) (A : Option Addr) (cap : Nat), firF rs s (steF rs N s) long = some l ∧ e = .returned (.tuple #[.slice A l.length cap, .int .i64 0]) ∧ l.length ≤ cap ∧ cap ≤ 9223372036854775807 ∧ Ints w' A l ∧ Below w.heap.size w w' := by
  obtain ⟨w1, hw1⟩ : ∃ w1, w1 = w.alloc (.cells #[.int .i64 N, .slice R n c] 26) := ⟨_, rfl⟩
  have hB : Blk w1 w.heap.size 26 #[.int .i64 N, .slice R n c] := by rw [hw1]; exact Blk.new _ _ _ rfl
  have hb1 : Below w.heap.size w w1 := by rw [hw1]; exact (Below.refl _ _).alloc (Nat.le_refl _) _
  have hN8 := (mapOk_iff.1 hv).1
  have hn16 : n ≤ 16 := by have := (mapOk_iff.1 hv).2.1; omega
  have hs256 : s < 256 := Nat.lt_of_lt_of_le hs.2 (Nat.pow_le_pow_right (n := 2) (by omega) (show N ≤ 8 by omega))
  have hst : (decide (0 < s) && decide (s < 2 ^ N)) = true := by simp; omega
  have H := Lib.hid (And.intro hl (And.intro hv (And.intro hR (And.intro ht (And.intro hB (And.intro hb1 (And.intro hst (And.intro hreach hfound))))))))
  obtain ⟨m1, m2, _, _⟩ := hB.at2
  clear hl hv hR ht hB hb1 hst hreach hfound
  go_enter Tryd.func18, Tryd.ntmps18
  go_upto_region 1 with fail
  rw [← hw1]
  clear hw1
  go_wp2_with fail
  refine (rvalid_any N R n c rs w1 H.out.1 (by omega) (H.out.2.2.1.below H.out.2.2.2.2.2.1)).mono ?_
  rintro e w2 ⟨rfl, hb2⟩
  have H2 := Lib.hid (And.intro (H.out.2.2.2.2.1.below hb2 H.out.2.2.2.2.1.lt) (H.out.2.2.2.2.2.1.trans (hb2.mono H.out.2.2.2.2.2.1.size)))
  clear hb2 m1 m2
  obtain ⟨m1, m2, _, _⟩ := H2.out.1.at2
  rw [H.out.2.1]
  go_wp2_with fail
  refine (rstops_any N s (.slice R n c) w2 (by omega)).mono ?_
  rintro e w3 ⟨rfl, hb3⟩
  have H3 := Lib.hid (And.intro (H2.out.1.below hb3 H2.out.1.lt) (H2.out.2.trans (hb3.mono H2.out.2.size)))
  clear hb3 m1 m2
  obtain ⟨m1, m2, _, _⟩ := H3.out.1.at2
  rw [H.out.2.2.2.2.2.2.1]
  go_wp2_with fail
  refine (rreach_any N R n c rs s w3 H.out.1 H.out.2.1 (H.out.2.2.1.below H3.out.2) ⟨hs.1, hs256⟩ (H.out.2.2.2.1.below H3.out.2 h2) (by have := H3.out.2.size; omega)).mono ?_
  rintro e w4 ⟨rfl, hb4⟩
  have H4 := Lib.hid (And.intro (H3.out.1.below hb4 H3.out.1.lt) (H3.out.2.trans (hb4.mono H3.out.2.size)))
  clear hb4 m1 m2
  obtain ⟨m1, m2, _, _⟩ := H4.out.1.at2
  rw [H.out.2.2.2.2.2.2.2.1]
  have d1 : ∀ sd : Desc w4, sd.val.cell? ⟨w.heap.size, 0, none⟩ = some (.int .i64 N) := fun sd => sd.cell m1
  have d2 : ∀ sd : Desc w4, sd.val.cell? ⟨w.heap.size, 1, none⟩ = some (.slice R n c) := fun sd => sd.cell m2
  have HST : Hid (∀ sd : Desc w4, Calls Tryd.prog 45 #[.agg #[.int .i64 N, .slice R n c], .int .i64 s] sd.val fun e w'' => e = .returned (.int .i64 (steF rs N s)) ∧ ∃ s' : Desc w4, w'' = s'.val) := Lib.hid fun sd => Calls.desc_of (rsteiner_any N R n c rs s sd.val H.out.1 H.out.2.1 ((H.out.2.2.1.below H4.out.2).below sd.below) hs ((H.out.2.2.2.1.below H4.out.2 h2).below sd.below (by have := H4.out.2.size; omega)) (by have := H4.out.2.size; have := sd.below.size; omega))
  go_upto_region 5 with fail
  refine wp_region_desc_tail 5 (by kernel_rfl) (by kernel_rfl) ?_
  simp only [List.take_succ_cons, List.take_zero, List.drop_succ_cons, List.drop_zero]
  repeat (go_big_quiet_step (first | (go_at_call 45; exact HST.out _)))
  refine wpQuiet_nil ?_
  rintro _ ⟨sd, rfl⟩
  have hb5 := sd.below
  generalize sd.val = w5 at hb5 ⊢
  have hbw : Below w.heap.size w w5 := H4.out.2.trans (hb5.mono H4.out.2.size)
  have HB := Lib.hid hbw
  have HF := Lib.hid (rfirst_any N R n c rs s (steF rs N s) M w5 H.out.1 H.out.2.1 (H.out.2.2.1.below hbw) ⟨hs.1, hs256⟩ hK (H.out.2.2.2.1.below hbw h2) (by have := hbw.size; omega) hM H.out.2.2.2.2.2.2.2.2)
  clear d1 d2 hb5 hbw m1 m2
  go_wp2_with fail
  refine HF.out.mono ?_
  rintro e w6 ⟨long, l, A, cap, hfi, rfl, hc1, hc2, hI, hb6⟩
  have H6 := Lib.hid (And.intro hfi (And.intro hI (And.intro (HB.out.trans (hb6.mono HB.out.size)) (And.intro hc1 hc2))))
  clear hfi hI hb6 hc1 hc2
  go_wp2_with fail
  go_ret2
  exact ⟨long, l, A, cap, H6.out.1, rfl, H6.out.2.2.2.1, H6.out.2.2.2.2, H6.out.2.1, H6.out.2.2.1⟩
/-- Every list that grow finds is a tree of the cost. -/
theorem growF_tree {rs : List Rd} {s : Nat} {K : Int} {long : Nat} : ∀ (f i0 : Nat) (left : Int) (p l l' : List Int), l.length ≤ i0 → i0 ≤ rs.length → growF rs s K long f i0 left p l = some l' → treeF rs s l' = (K, true) ∧ l'.length ≤ rs.length
  | 0, _, _, _, _, _, _, _, h => by simp [growF] at h
  | f + 1, i0, left, p, l, l', hli, hi0, h => by
    rw [growF] at h
    by_cases hl : l.length = long
    · rw [if_pos hl] at h
      by_cases hc : ((treeF rs s l).2 && decide ((treeF rs s l).1 = K)) = true
      · rw [if_pos hc] at h
        injection h with h
        subst h
        simp only [Bool.and_eq_true, decide_eq_true_eq] at hc
        exact ⟨Prod.ext hc.2 hc.1, by omega⟩
      · rw [if_neg hc] at h; cases h
    · rw [if_neg hl] at h
      obtain ⟨i, hi, h⟩ := List.exists_of_findSome?_eq_some h
      have hin := List.mem_range.1 hi
      by_cases hc : i < i0 ∨ pjoinL p (rdN rs i).1.toNat (rdN rs i).2.1.toNat = p ∨ left < (rdN rs i).2.2
      · rw [if_pos hc] at h; cases h
      · rw [if_neg hc] at h
        exact growF_tree f (i + 1) _ _ _ _ (by rw [List.length_append]; simp; omega) (by omega) h
theorem firF_tree {rs : List Rd} {s : Nat} {K : Int} {long : Nat} {l : List Int} (h : firF rs s K long = some l) : treeF rs s l = (K, true) ∧ l.length ≤ rs.length := growF_tree (rs.length + 1) 0 K p8 [] l (Nat.le_refl _) (Nat.zero_le _) h
set_option maxRecDepth 100000 in
set_option maxHeartbeats 1600000 in
theorem tleast_any (N : Nat) (R : Option Addr) (n c : Nat) (rs : List Rd) (s M : Nat) (w : World) (hl : rs.length = n) (hv : mapOk (N : Int) rs = true) (hR : Rds w R rs) (hs : 1 ≤ s ∧ s < 2 ^ N) (ht : TabW w) (h2 : 2 ≤ w.heap.size)
    (hreach : connB (reP rs) s = true) (hK : 0 ≤ steF rs N s ∧ steF rs N s ≤ 100000000) (hM : M ≤ 1000000) (hfound : (firF rs s (steF rs N s) M).isSome = true) :
    Calls Tryd.prog 5 #[mapV N R n c, .int .i64 s] w fun e w' => e = .returned (.tuple #[.int .i64 (steF rs N s), .bool true]) ∧ Below w.heap.size w w' := by
  obtain ⟨w1, hw1⟩ : ∃ w1, w1 = w.alloc (.cells #[.int .i64 N, .slice R n c] 26) := ⟨_, rfl⟩
  have hB : Blk w1 w.heap.size 26 #[.int .i64 N, .slice R n c] := by rw [hw1]; exact Blk.new _ _ _ rfl
  have hb1 : Below w.heap.size w w1 := by rw [hw1]; exact (Below.refl _ _).alloc (Nat.le_refl _) _
  have hn16 : n ≤ 16 := by have := (mapOk_iff.1 hv).2.1; omega
  have hs1 := hb1.size
  have HT := Lib.hid (rTree_any N R n c rs s M w1 hl hv (hR.below hb1) hs (ht.below hb1 h2) (by omega) hreach hK hM hfound)
  have H := Lib.hid (And.intro hl (And.intro hv (And.intro hR (And.intro ht (And.intro hB hb1)))))
  obtain ⟨m1, m2, _, _⟩ := hB.at2
  clear hl hv hR ht hB hb1 hreach hfound
  go_enter Tryd.func5, Tryd.ntmps5
  go_upto_region 1 with fail
  rw [← hw1]
  clear hw1
  go_wp2_with fail
  refine HT.out.mono ?_
  rintro e w2 ⟨long, l, A, cap, hfi, rfl, hc1, hc2, hI, hb2⟩
  obtain ⟨htr, hll⟩ := firF_tree hfi
  have H2 := Lib.hid (And.intro (H.out.2.2.2.2.1.below hb2 H.out.2.2.2.2.1.lt) (And.intro (H.out.2.2.2.2.2.trans (hb2.mono hs1)) htr))
  have hln := H.out.1
  have hws2 := H2.out.2.1.size
  have HC := Lib.hid (rchktree_any N R n c rs s A l.length cap l w2 H.out.1 H.out.2.1 (H.out.2.2.1.below H2.out.2.1) hs rfl (by omega) hI (H.out.2.2.2.1.below H2.out.2.1 h2) (by omega))
  clear hfi hc1 hc2 hI hb2 htr hll m1 m2
  obtain ⟨m1, m2, _, _⟩ := H2.out.1.at2
  rw [H2.out.2.2] at HC
  go_wp2_with fail
  refine HC.out.mono ?_
  rintro e w3 ⟨rfl, hb3⟩
  have H3 := Lib.hid (H2.out.2.1.trans (hb3.mono hws2))
  clear hb3 m1 m2
  go_wp2_with fail
  go_ret2
  exact ⟨rfl, H3.out⟩

/- Sums of fractions, and homogeneous equations with more unknowns than equations. Plain Lean. -/

def sumQ (f : Nat → Rat) : Nat → Rat
  | 0 => 0
  | n + 1 => sumQ f n + f n
theorem sumQ_congr {f g : Nat → Rat} {n : Nat} (h : ∀ i, i < n → f i = g i) : sumQ f n = sumQ g n := by
  induction n with
  | zero => rfl
  | succ n ih => simp only [sumQ]; rw [ih fun i hi => h i (by omega), h n (by omega)]
theorem sumQ_zero {f : Nat → Rat} {n : Nat} (h : ∀ i, i < n → f i = 0) : sumQ f n = 0 := by
  induction n with
  | zero => rfl
  | succ n ih => simp only [sumQ]; rw [ih fun i hi => h i (by omega), h n (by omega)]; grind
theorem sumQ_add (f g : Nat → Rat) (n : Nat) : sumQ (fun i => f i + g i) n = sumQ f n + sumQ g n := by
  induction n with
  | zero => simp only [sumQ]; grind
  | succ n ih => simp only [sumQ]; rw [ih]; grind
theorem sumQ_mul (a : Rat) (f : Nat → Rat) (n : Nat) : sumQ (fun i => a * f i) n = a * sumQ f n := by
  induction n with
  | zero => simp [sumQ]
  | succ n ih => simp only [sumQ]; rw [ih]; grind
theorem sumQ_one {f : Nat → Rat} {n k : Nat} (hk : k < n) (h : ∀ i, i < n → i ≠ k → f i = 0) : sumQ f n = f k := by
  induction n with
  | zero => omega
  | succ n ih =>
    simp only [sumQ]
    by_cases e : k = n
    · subst e
      rw [sumQ_zero fun i hi => h i (by omega) (by omega)]; grind
    · rw [ih (by omega) fun i hi => h i (by omega), h n (by omega) (by omega)]; grind
/-- All numbers but j0. -/
def skip (j0 j : Nat) : Nat := if j < j0 then j else j + 1
theorem sumQ_skip (f : Nat → Rat) (j0 : Nat) : ∀ k, j0 ≤ k → sumQ f (k + 1) = sumQ (fun j => f (skip j0 j)) k + f j0 := by
  intro k
  induction k with
  | zero =>
    intro h
    obtain rfl : j0 = 0 := by omega
    simp [sumQ]
  | succ k ih =>
    intro h
    by_cases e : j0 = k + 1
    · subst e
      rw [sumQ]
      congr 1
      exact sumQ_congr fun i hi => by unfold skip; rw [if_pos hi]
    · have h1 := ih (by omega)
      rw [sumQ, h1, sumQ]
      have h2 : skip j0 k = k + 1 := by unfold skip; rw [if_neg (by omega)]
      simp only [h2]
      grind
theorem null_exists : ∀ (m k : Nat), m < k → ∀ a : Nat → Nat → Rat, ∃ x : Nat → Rat, (∃ j, j < k ∧ x j ≠ 0) ∧ ∀ i, i < m → sumQ (fun j => a i j * x j) k = 0 := by
  intro m
  induction m with
  | zero => intro k hk a; exact ⟨fun j => if j = 0 then 1 else 0, ⟨0, hk, by simp⟩, fun i hi => by omega⟩
  | succ m ih =>
    intro k hk a
    by_cases hz : ∀ j, j < k → a m j = 0
    · obtain ⟨x, hx, hs⟩ := ih k (by omega) a
      refine ⟨x, hx, fun i hi => ?_⟩
      by_cases e : i = m
      · subst e
        exact sumQ_zero fun j hj => by rw [hz j hj]; grind
      · exact hs i (by omega)
    · obtain ⟨j0, hj0, hne⟩ : ∃ j0, j0 < k ∧ a m j0 ≠ 0 := by
        apply Decidable.byContradiction
        intro h
        apply hz
        intro j hj
        apply Decidable.byContradiction
        intro h2
        exact h ⟨j, hj, h2⟩
      obtain ⟨k', rfl⟩ : ∃ k', k = k' + 1 := ⟨k - 1, by omega⟩
      obtain ⟨y, ⟨jy, hjy, hy⟩, hs⟩ := ih k' (by omega) (fun i j => a i (skip j0 j) - a i j0 * (a m (skip j0 j) * (a m j0)⁻¹))
      obtain ⟨S, hS⟩ : ∃ S, S = sumQ (fun j => a m (skip j0 j) * y j) k' := ⟨_, rfl⟩
      refine ⟨fun j => if j = j0 then -(S * (a m j0)⁻¹) else if j < j0 then y j else y (j - 1), ?_, fun i hi => ?_⟩
      · refine ⟨skip j0 jy, by unfold skip; split <;> omega, ?_⟩
        unfold skip
        by_cases h1 : jy < j0
        · simp only [if_pos h1]
          rw [if_neg (by omega)]
          simpa [h1] using hy
        · simp only [if_neg h1]
          rw [if_neg (by omega), if_neg (by omega)]
          exact hy
      · have hsk : ∀ j, (if skip j0 j = j0 then -(S * (a m j0)⁻¹) else if skip j0 j < j0 then y (skip j0 j) else y (skip j0 j - 1)) = y j := by
          intro j
          unfold skip
          by_cases h1 : j < j0
          · simp only [if_pos h1]
            rw [if_neg (by omega)]
          · simp only [if_neg h1]
            rw [if_neg (by omega), if_neg (by omega)]
            rfl
        rw [sumQ_skip _ j0 k' (by omega)]
        simp only [hsk, if_true]
        have hinv : a m j0 * (a m j0)⁻¹ = 1 := Rat.mul_inv_cancel _ hne
        by_cases e : i = m
        · subst e
          rw [← hS]
          grind
        · have h1 := hs i (by omega)
          have h2 : sumQ (fun j => (a i (skip j0 j) - a i j0 * (a m (skip j0 j) * (a m j0)⁻¹)) * y j) k' = sumQ (fun j => a i (skip j0 j) * y j) k' + (-(a i j0 * (a m j0)⁻¹)) * S := by
            rw [hS, ← sumQ_mul, ← sumQ_add]
            exact sumQ_congr fun j _ => by grind
          rw [h2] at h1
          grind

/- The memory of a system of equations, and its elimination: plain definitions, no program. -/

/-- The system: n rows of n + 1 numbers, each in a block of its own. -/
structure Mtx (w : World) (g n : Nat) (R C : Nat → Nat) (f : Nat → Nat → Int) : Prop where
  rows : ∀ i, i < n → w.cell? ⟨g, i, none⟩ = some (.slice (some ⟨R i, 0, none⟩) (n + 1) (C i)) ∧ w.frozen? ⟨g, i, none⟩ = false
  cells : ∀ i j, i < n → j ≤ n → w.cell? ⟨R i, j, none⟩ = some (.int .i64 (f i j)) ∧ w.frozen? ⟨R i, j, none⟩ = false
  inj : ∀ i j, i < n → j < n → R i = R j → i = j
  ne : ∀ i, i < n → R i ≠ g

def upd (f : Nat → Nat → Int) (i j : Nat) (v : Int) : Nat → Nat → Int := fun a b => if a = i ∧ b = j then v else f a b
section
variable {w : World} {g n : Nat} {R C : Nat → Nat} {f f' : Nat → Nat → Int}
theorem Mtx.congr (h : Mtx w g n R C f) (hf : ∀ i j, i < n → j ≤ n → f i j = f' i j) : Mtx w g n R C f' :=
  ⟨h.rows, fun i j hi hj => by rw [← hf i j hi hj]; exact h.cells i j hi hj, h.inj, h.ne⟩
theorem Mtx.drewN (h : Mtx w g n R C f) (k : Nat) : Mtx (w.drewN k) g n R C f := ⟨h.rows, h.cells, h.inj, h.ne⟩
theorem Mtx.drew (h : Mtx w g n R C f) : Mtx w.drew g n R C f := ⟨h.rows, h.cells, h.inj, h.ne⟩
theorem Mtx.set (h : Mtx w g n R C f) {i j : Nat} (hi : i < n) (hj : j ≤ n) (v : Int) : Mtx (w.setCell ⟨R i, j, none⟩ (.int .i64 v)) g n R C (upd f i j v) := by
  refine ⟨fun a ha => ?_, fun a b ha hb => ?_, h.inj, h.ne⟩
  · rw [World.cell?_setCell_other _ _ _ _ (by intro e; injection e with e; exact h.ne i hi e), World.frozen?_setCell]
    exact h.rows a ha
  · rw [World.frozen?_setCell]
    refine ⟨?_, (h.cells a b ha hb).2⟩
    unfold upd
    by_cases e : a = i ∧ b = j
    · rw [if_pos e, e.1, e.2]
      exact World.cell?_setCell_same _ _ _ (h.cells i j hi hj).1
    · rw [if_neg e, World.cell?_setCell_other _ _ _ _ ?_]
      · exact (h.cells a b ha hb).1
      · intro e2
        injection e2 with e3 e4
        exact e ⟨h.inj a i ha hi e3.symm, e4.symm⟩
def swp (k p i : Nat) : Nat := if i = k then p else if i = p then k else i
theorem swp_lt {k p i : Nat} (hk : k < n) (hp : p < n) (hi : i < n) : swp k p i < n := by unfold swp; split; exact hp; split; exact hk; exact hi
theorem swp_inj {k p i j : Nat} (h : swp k p i = swp k p j) : i = j := by
  unfold swp at h
  split at h <;> split at h <;> (try split at h) <;> (try split at h) <;> omega
theorem Mtx.swap (h : Mtx w g n R C f) {k p : Nat} (hk : k < n) (hp : p < n) (hkp : p ≠ k) :
    Mtx ((w.setCell ⟨g, k, none⟩ (.slice (some ⟨R p, 0, none⟩) (n + 1) (C p))).setCell ⟨g, p, none⟩ (.slice (some ⟨R k, 0, none⟩) (n + 1) (C k))) g n (fun i => R (swp k p i)) (fun i => C (swp k p i)) (fun i j => f (swp k p i) j) := by
  refine ⟨fun a ha => ?_, fun a b ha hb => ?_, fun a b ha hb e => swp_inj (h.inj _ _ (swp_lt hk hp ha) (swp_lt hk hp hb) e), fun a ha => h.ne _ (swp_lt hk hp ha)⟩
  · rw [World.frozen?_setCell, World.frozen?_setCell]
    refine ⟨?_, (h.rows a ha).2⟩
    by_cases e : a = p
    · have hs : swp k p a = k := by unfold swp; rw [e, if_neg hkp, if_pos rfl]
      rw [hs, e]
      exact World.cell?_setCell_same _ _ _ (by rw [World.cell?_setCell_other _ _ _ _ (by intro e; injection e with _ e; omega)]; exact (h.rows p hp).1)
    · rw [World.cell?_setCell_other _ _ _ _ (by intro e2; injection e2 with _ e2; omega)]
      by_cases e3 : a = k
      · have hs : swp k p a = p := by unfold swp; rw [if_pos e3]
        rw [hs, e3]
        exact World.cell?_setCell_same _ _ _ (h.rows k hk).1
      · have hs : swp k p a = a := by unfold swp; rw [if_neg e3, if_neg e]
        rw [hs, World.cell?_setCell_other _ _ _ _ (by intro e2; injection e2 with _ e2; omega)]
        exact (h.rows a ha).1
  · rw [World.frozen?_setCell, World.frozen?_setCell, World.cell?_setCell_other _ _ _ _ (by intro e; injection e with e; exact h.ne _ (swp_lt hk hp ha) e.symm), World.cell?_setCell_other _ _ _ _ (by intro e; injection e with e; exact h.ne _ (swp_lt hk hp ha) e.symm)]
    exact h.cells _ _ (swp_lt hk hp ha) hb
end

/-- The first row from p on whose entry in column k is not 0, with so many looked at. -/
def pivA (h : Nat → Nat → Int) (k : Nat) : Nat → Nat → Nat
  | 0, p => p
  | m + 1, p => if h p k = 0 then pivA h k m (p + 1) else p
def piv (h : Nat → Nat → Int) (n k : Nat) : Nat := pivA h k (n - k) k
theorem pivA_skip {h : Nat → Nat → Int} {k : Nat} : ∀ (m p q : Nat), q ≤ m → (∀ r, p ≤ r → r < p + q → h r k = 0) → pivA h k m p = pivA h k (m - q) (p + q) := by
  intro m
  induction m with
  | zero => intro p q hq _; have : q = 0 := by omega
            subst this; rfl
  | succ m ih =>
    intro p q hq h0
    cases q with
    | zero => rfl
    | succ q =>
      rw [pivA, if_pos (h0 p (Nat.le_refl _) (by omega)), ih (p + 1) q (by omega) (fun r h1 h2 => h0 r (by omega) (by omega))]
      rw [show m + 1 - (q + 1) = m - q from by omega, show p + (q + 1) = p + 1 + q from by omega]
theorem piv_hit {h : Nat → Nat → Int} {n k p : Nat} (hkp : k ≤ p) (hp : p < n) (h0 : ∀ r, k ≤ r → r < p → h r k = 0) (hne : h p k ≠ 0) : piv h n k = p := by
  unfold piv
  rw [pivA_skip (n - k) k (p - k) (by omega) (fun r h1 h2 => h0 r h1 (by omega)), show n - k - (p - k) = (n - p - 1) + 1 from by omega, show k + (p - k) = p from by omega, pivA, if_neg hne]
theorem piv_miss {h : Nat → Nat → Int} {n k : Nat} (hk : k ≤ n) (h0 : ∀ r, k ≤ r → r < n → h r k = 0) : piv h n k = n := by
  unfold piv
  rw [pivA_skip (n - k) k (n - k) (Nat.le_refl _) (fun r h1 h2 => h0 r h1 (by omega)), show n - k - (n - k) = 0 from by omega, pivA]
  omega
theorem piv_le {h : Nat → Nat → Int} {n k : Nat} (hk : k ≤ n) : k ≤ piv h n k ∧ piv h n k ≤ n ∧ (piv h n k < n → h (piv h n k) k ≠ 0) := by
  have key : ∀ m p, p ≤ pivA h k m p ∧ pivA h k m p ≤ p + m ∧ (pivA h k m p < p + m → h (pivA h k m p) k ≠ 0) := by
    intro m
    induction m with
    | zero => intro p; exact ⟨Nat.le_refl _, Nat.le_refl _, fun h => by simp [pivA] at h⟩
    | succ m ih =>
      intro p
      rw [pivA]
      by_cases e : h p k = 0
      · rw [if_pos e]
        obtain ⟨a, b, c⟩ := ih (p + 1)
        exact ⟨by omega, by omega, fun hlt => c (by omega)⟩
      · rw [if_neg e]
        exact ⟨Nat.le_refl _, by omega, fun _ => e⟩
  obtain ⟨a, b, c⟩ := key (n - k) k
  unfold piv
  exact ⟨a, by omega, fun hlt => c (by omega)⟩

/-- Row p comes to place k, with its sign turned. -/
def swapM (f : Nat → Nat → Int) (k p : Nat) : Nat → Nat → Int := if p = k then f else fun i j => if i = k then -(f p j) else if i = p then f k j else f i j
/-- Column k is cleared but for row k. -/
def red (f : Nat → Nat → Int) (k : Nat) (last : Int) : Nat → Nat → Int := fun i j => if i = k then f k j else if j = k then 0 else (f i j * f k k - f i k * f k j).tdiv last
/-- The elimination, after so many columns. -/
def slvTo (f : Nat → Nat → Int) (n : Nat) : Nat → Option ((Nat → Nat → Int) × Int)
  | 0 => some (f, 1)
  | k + 1 => match slvTo f n k with
    | none => none
    | some (h, l) => if piv h n k = n then none else some (red (swapM h k (piv h n k)) k l, swapM h k (piv h n k) k k)
theorem slvTo_none {f : Nat → Nat → Int} {n k : Nat} (h : slvTo f n k = none) (m : Nat) : slvTo f n (k + m) = none := by
  induction m with
  | zero => exact h
  | succ m ih => rw [← Nat.add_assoc, slvTo, ih]
/-- All numbers on the way are small. -/
def SafeM (f : Nat → Nat → Int) (n : Nat) : Prop := ∀ k h l, k ≤ n → slvTo f n k = some (h, l) → l ≠ 0 ∧ -100000000 ≤ l ∧ l ≤ 100000000 ∧ ∀ i j, i < n → j ≤ n → -100000000 ≤ h i j ∧ h i j ≤ 100000000

/-- Rows up to i are done, and of row i the entries from q on. -/
def midM (f1 f2 : Nat → Nat → Int) (k i q : Nat) : Nat → Nat → Int := fun a b => if (a < i ∧ a ≠ k) ∨ (a = i ∧ q ≤ b ∧ b ≠ k) then f2 a b else f1 a b

/- The numbers in the elimination of a system of zeros and ones stay small. Plain Lean. -/

/-- All entries of h are at most a, those on the right b. -/
def BdM (a b : Nat) (h : Nat → Nat → Int) (n : Nat) : Prop := (∀ i j, i < n → j < n → (h i j).natAbs ≤ a) ∧ ∀ i, i < n → (h i n).natAbs ≤ b
theorem swapM_bd {a b n k p : Nat} {h : Nat → Nat → Int} (hb : BdM a b h n) (hk : k < n) (hp : p < n) : BdM a b (swapM h k p) n := by
  unfold swapM
  split
  · exact hb
  · refine ⟨fun i j hi hj => ?_, fun i hi => ?_⟩
    · dsimp only
      split
      · rw [Int.natAbs_neg]; exact hb.1 p j hp hj
      · split
        · exact hb.1 k j hk hj
        · exact hb.1 i j hi hj
    · dsimp only
      split
      · rw [Int.natAbs_neg]; exact hb.2 p hp
      · split
        · exact hb.2 k hk
        · exact hb.2 i hi
theorem diff_bd {x y z u : Int} {a b : Nat} (hx : x.natAbs ≤ b) (hy : y.natAbs ≤ a) (hz : z.natAbs ≤ a) (hu : u.natAbs ≤ b) (l : Int) : ((x * y - z * u).tdiv l).natAbs ≤ 2 * a * b := by
  rw [Int.natAbs_tdiv]
  refine Nat.le_trans (Nat.div_le_self _ _) ?_
  have h1 : (x * y).natAbs ≤ b * a := by rw [Int.natAbs_mul]; exact Nat.mul_le_mul hx hy
  have h2 : (z * u).natAbs ≤ a * b := by rw [Int.natAbs_mul]; exact Nat.mul_le_mul hz hu
  have h3 : b * a = a * b := Nat.mul_comm _ _
  have h4 : 2 * a * b = a * b + a * b := by rw [Nat.mul_assoc]; omega
  omega
theorem red_bd {a b n k : Nat} {h : Nat → Nat → Int} (ha : 1 ≤ a) (hb : BdM a b h n) (hk : k < n) (l : Int) : BdM (2 * a * a) (2 * a * b) (red h k l) n := by
  have e1 : a ≤ 2 * a * a := by
    have := Nat.mul_le_mul_right a (show 1 ≤ 2 * a by omega)
    omega
  have e2 : b ≤ 2 * a * b := by
    have := Nat.mul_le_mul_right b (show 1 ≤ 2 * a by omega)
    omega
  refine ⟨fun i j hi hj => ?_, fun i hi => ?_⟩
  · unfold red
    split
    · exact Nat.le_trans (hb.1 k j hk hj) e1
    · split
      · simp
      · exact diff_bd (hb.1 i j hi hj) (hb.1 k k hk hk) (hb.1 i k hi hk) (hb.1 k j hk hj) l
  · unfold red
    split
    · exact Nat.le_trans (hb.2 k hk) e2
    · split
      · simp
      · exact diff_bd (hb.2 i hi) (hb.1 k k hk hk) (hb.1 i k hi hk) (hb.2 k hk) l

/-- The bounds after so many columns. -/
def bA : Nat → Nat
  | 0 => 1
  | k + 1 => 2 * bA k * bA k
def bB : Nat → Nat
  | 0 => 1000
  | k + 1 => 2 * bA k * bB k
theorem bA_pos (k : Nat) : 1 ≤ bA k := by
  induction k with
  | zero => exact Nat.le_refl _
  | succ k ih =>
    simp only [bA]
    have := Nat.mul_le_mul ih ih
    rw [Nat.mul_assoc]
    omega
theorem swapM_piv {n k : Nat} {h : Nat → Nat → Int} (hk : k < n) (hp : piv h n k < n) : swapM h k (piv h n k) k k ≠ 0 := by
  have h1 := (piv_le (h := h) (n := n) (k := k) (by omega)).2.2 hp
  unfold swapM
  split
  · rename_i e; rw [e] at h1; exact h1
  · dsimp only
    rw [if_pos rfl]
    omega
theorem slvTo_bd {f : Nat → Nat → Int} {n : Nat} (h0 : BdM 1 1000 f n) : ∀ k h l, k ≤ n → slvTo f n k = some (h, l) → BdM (bA k) (bB k) h n ∧ l ≠ 0 ∧ (k = 0 ∧ l = 1 ∨ 0 < k ∧ l.natAbs ≤ bA (k - 1)) := by
  intro k
  induction k with
  | zero =>
    intro h l _ e
    simp only [slvTo, Option.some.injEq, Prod.mk.injEq] at e
    obtain ⟨rfl, rfl⟩ := e
    exact ⟨h0, by omega, .inl ⟨rfl, rfl⟩⟩
  | succ k ih =>
    intro h l hk e
    rw [slvTo] at e
    cases hs : slvTo f n k with
    | none => rw [hs] at e; cases e
    | some q =>
      obtain ⟨g, m⟩ := q
      rw [hs] at e
      simp only at e
      obtain ⟨hb, _, _⟩ := ih g m (by omega) hs
      have hpl := piv_le (h := g) (n := n) (k := k) (by omega)
      by_cases hp : piv g n k = n
      · rw [if_pos hp] at e; cases e
      · rw [if_neg hp] at e
        injection e with e
        injection e with e1 e2
        have hpn : piv g n k < n := by omega
        have hsw := swapM_bd hb (show k < n by omega) hpn
        refine ⟨?_, ?_, .inr ⟨by omega, ?_⟩⟩
        · rw [← e1]; exact red_bd (bA_pos k) hsw (by omega) m
        · rw [← e2]; exact swapM_piv (by omega) hpn
        · rw [← e2]; exact hsw.1 k k (by omega) (by omega)
theorem bA_4 (k : Nat) (hk : k ≤ 4) : bA k ≤ 100000000 ∧ bB k ≤ 100000000 := by
  match k, hk with
  | 0, _ => decide
  | 1, _ => decide
  | 2, _ => decide
  | 3, _ => decide
  | 4, _ => decide
theorem safe_of {f : Nat → Nat → Int} {n : Nat} (hn : n ≤ 4) (h0 : BdM 1 1000 f n) : SafeM f n := by
  intro k h l hk e
  obtain ⟨hb, hl, hl2⟩ := slvTo_bd h0 k h l hk e
  have h4 := bA_4 k (by omega)
  have h5 := bA_4 (k - 1) (by omega)
  refine ⟨hl, ?_, ?_, fun i j hi hj => ?_⟩
  · omega
  · omega
  · by_cases hjn : j = n
    · subst hjn
      have := hb.2 i hi
      omega
    · have := hb.1 i j hi (by omega)
      omega

/- What the elimination finds: the unknowns, or an answer that is not 0 of the homogeneous equations. Plain Lean. -/

/-- y answers all the equations: its last number stands with a minus for the right side. -/
def Hom (f : Nat → Nat → Int) (n : Nat) (y : Nat → Rat) : Prop := ∀ i, i < n → sumQ (fun j => (f i j : Rat) * y j) (n + 1) = 0
/-- l divides all products across. -/
def Crs (l : Int) (h : Nat → Nat → Int) (n : Nat) : Prop := ∀ i r j s, i < n → r < n → j ≤ n → s ≤ n → l ∣ h i j * h r s - h i s * h r j
/-- The columns up to k are done. -/
def Dgl (h : Nat → Nat → Int) (l : Int) (n k : Nat) : Prop := ∀ i j, i < n → j < k → h i j = if i = j then l else 0

theorem crs_unit {l : Int} {h : Nat → Nat → Int} {n : Nat} (hl : l = 1 ∨ l = -1) : Crs l h n := by
  intro i r j s _ _ _ _
  rcases hl with rfl | rfl
  · exact ⟨_, (Int.one_mul _).symm⟩
  · exact ⟨-(h i j * h r s - h i s * h r j), by omega⟩
theorem crs_swap {l : Int} {h : Nat → Nat → Int} {n k p : Nat} (hk : k < n) (hp : p < n) (hc : Crs l h n) : Crs l (swapM h k p) n := by
  unfold swapM
  split
  · exact hc
  · have key : ∀ i, i < n → ∃ (e : Int) (a : Nat), a < n ∧ ∀ j, (if i = k then -(h p j) else if i = p then h k j else h i j) = e * h a j := by
      intro i hi
      by_cases e1 : i = k
      · exact ⟨-1, p, hp, fun j => by rw [if_pos e1]; omega⟩
      · by_cases e2 : i = p
        · exact ⟨1, k, hk, fun j => by rw [if_neg e1, if_pos e2]; omega⟩
        · exact ⟨1, i, hi, fun j => by rw [if_neg e1, if_neg e2]; omega⟩
    intro i r j s hi hr hj hs
    obtain ⟨e, a, ha, h1⟩ := key i hi
    obtain ⟨e', a', ha', h2⟩ := key r hr
    simp only [h1, h2]
    obtain ⟨q, hq⟩ := hc a a' j s ha ha' hj hs
    exact ⟨e * e' * q, by grind⟩
theorem red_mul {l : Int} {h : Nat → Nat → Int} {n k i j : Nat} (hc : Crs l h n) (hk : k < n) (hi : i < n) (hj : j ≤ n) (hik : i ≠ k) : l * red h k l i j = h i j * h k k - h i k * h k j := by
  unfold red
  rw [if_neg hik]
  by_cases e : j = k
  · subst e
    rw [if_pos rfl]
    grind
  · rw [if_neg e, Int.mul_tdiv_cancel']
    exact hc i k j k hi hk hj (by omega)
theorem crs_red {l : Int} {h : Nat → Nat → Int} {n k : Nat} (hl : l = 1 ∨ l = -1) (hk : k < n) : Crs (h k k) (red h k l) n := by
  have hc : Crs l h n := crs_unit hl
  have hll : l * l = 1 := by rcases hl with rfl | rfl <;> rfl
  have key : ∀ i j, i < n → j ≤ n → i ≠ k → red h k l i j = l * (h i j * h k k - h i k * h k j) := by
    intro i j hi hj hik
    rw [← red_mul hc hk hi hj hik, ← Int.mul_assoc, hll, Int.one_mul]
  have keyk : ∀ j, red h k l k j = h k j := by intro j; unfold red; rw [if_pos rfl]
  intro i r j s hi hr hj hs
  by_cases e1 : i = k <;> by_cases e2 : r = k
  · subst e1; subst e2
    exact ⟨0, by grind⟩
  · subst e1
    rw [keyk, keyk, key r s hr hs e2, key r j hr hj e2]
    exact ⟨l * (h i j * h r s - h i s * h r j), by grind⟩
  · subst e2
    rw [keyk, keyk, key i s hi hs e1, key i j hi hj e1]
    exact ⟨l * (h i j * h r s - h i s * h r j), by grind⟩
  · rw [key r s hr hs e2, key r j hr hj e2, key i s hi hs e1, key i j hi hj e1]
    exact ⟨h i j * h r s * h k k - h i j * h r k * h k s - h i k * h k j * h r s - (h i s * h r j * h k k - h i s * h r k * h k j - h i k * h k s * h r j), by grind⟩

theorem hom_swap {h : Nat → Nat → Int} {n k p : Nat} {y : Nat → Rat} (hk : k < n) (hp : p < n) : Hom (swapM h k p) n y ↔ Hom h n y := by
  unfold swapM
  split
  · rfl
  · rename_i hne
    have hneg : ∀ (g : Nat → Int) m, sumQ (fun j => ((-(g j) : Int) : Rat) * y j) m = - sumQ (fun j => (g j : Rat) * y j) m := by
      intro g m
      have := sumQ_mul (-1) (fun j => (g j : Rat) * y j) m
      rw [show -sumQ (fun j => (g j : Rat) * y j) m = -1 * sumQ (fun j => (g j : Rat) * y j) m from by grind, ← this]
      exact sumQ_congr fun j _ => by rw [Rat.intCast_neg]; grind
    constructor
    · intro H i hi
      by_cases e1 : i = k
      · subst e1
        have := H p hp
        simp only [if_neg hne, if_true] at this
        exact this
      · by_cases e2 : i = p
        · subst e2
          have := H k hk
          simp only [if_true] at this
          rw [hneg] at this
          grind
        · have := H i hi
          simp only [if_neg e1, if_neg e2] at this
          exact this
    · intro H i hi
      by_cases e1 : i = k
      · subst e1
        simp only [if_true]
        rw [hneg, H p hp]
        grind
      · by_cases e2 : i = p
        · subst e2
          simp only [if_neg e1, if_true]
          exact H k hk
        · simp only [if_neg e1, if_neg e2]
          exact H i hi
theorem hom_red {h : Nat → Nat → Int} {n k : Nat} {l : Int} {y : Nat → Rat} (hk : k < n) (hl : l ≠ 0) (hp : h k k ≠ 0) (hc : Crs l h n) : Hom (red h k l) n y ↔ Hom h n y := by
  have hlq : (l : Rat) ≠ 0 := by simpa using hl
  have hpq : (h k k : Rat) ≠ 0 := by simpa using hp
  have hrk : sumQ (fun j => (red h k l k j : Rat) * y j) (n + 1) = sumQ (fun j => (h k j : Rat) * y j) (n + 1) := sumQ_congr fun j _ => by unfold red; rw [if_pos rfl]
  have hri : ∀ i, i < n → i ≠ k → (l : Rat) * sumQ (fun j => (red h k l i j : Rat) * y j) (n + 1) = (h k k : Rat) * sumQ (fun j => (h i j : Rat) * y j) (n + 1) - (h i k : Rat) * sumQ (fun j => (h k j : Rat) * y j) (n + 1) := by
    intro i hi hik
    rw [← sumQ_mul, ← sumQ_mul, ← sumQ_mul, show ∀ a b : Rat, a - b = a + (-1) * b from fun a b => by grind, ← sumQ_mul (-1), ← sumQ_add]
    refine sumQ_congr fun j hj => ?_
    have e := red_mul hc hk hi (show j ≤ n by omega) hik
    have e2 : (l : Rat) * (red h k l i j : Rat) = (h i j : Rat) * (h k k : Rat) - (h i k : Rat) * (h k j : Rat) := by
      rw [← Rat.intCast_mul, e, Rat.intCast_sub, Rat.intCast_mul, Rat.intCast_mul]
    grind
  constructor
  · intro H i hi
    have h0 := H k hk
    rw [hrk] at h0
    by_cases e : i = k
    · subst e; exact h0
    · have h1 := hri i hi e
      rw [H i hi, h0] at h1
      have : (h k k : Rat) * sumQ (fun j => (h i j : Rat) * y j) (n + 1) = 0 := by grind
      rcases Rat.mul_eq_zero.1 this with h2 | h2
      · exact absurd h2 hpq
      · exact h2
  · intro H i hi
    by_cases e : i = k
    · subst e; rw [hrk]; exact H i hi
    · have h1 := hri i hi e
      rw [H i hi, H k hk] at h1
      have : (l : Rat) * sumQ (fun j => (red h k l i j : Rat) * y j) (n + 1) = 0 := by grind
      rcases Rat.mul_eq_zero.1 this with h2 | h2
      · exact absurd h2 hlq
      · exact h2
theorem dgl_swap {h : Nat → Nat → Int} {l : Int} {n k p : Nat} (hkp : k ≤ p) (hp : p < n) (hd : Dgl h l n k) : Dgl (swapM h k p) l n k := by
  unfold swapM
  split
  · exact hd
  · intro i j hi hj
    dsimp only
    have a1 := hd p j hp hj
    have a2 := hd k j (by omega) hj
    have a3 := hd i j hi hj
    rw [if_neg (by omega)] at a1 a2
    split
    · rw [a1, if_neg (by omega)]; rfl
    · split
      · rw [a2, if_neg (by omega)]
      · exact a3
theorem dgl_red {h : Nat → Nat → Int} {l : Int} {n k : Nat} (hk : k < n) (hl : l ≠ 0) (hd : Dgl h l n k) : Dgl (red h k l) (h k k) n (k + 1) := by
  intro i j hi hj
  unfold red
  by_cases e : i = k
  · subst e
    rw [if_pos rfl]
    by_cases e2 : j = i
    · rw [e2, if_pos rfl]
    · rw [if_neg (fun h => e2 h.symm), hd i j hi (by omega), if_neg (fun h => e2 h.symm)]
  · rw [if_neg e]
    by_cases e2 : j = k
    · subst e2
      rw [if_pos rfl, if_neg e]
    · rw [if_neg e2, hd k j hk (by omega), if_neg (fun h => e2 h.symm), hd i j hi (by omega), Int.mul_zero, Int.sub_zero]
      split
      · rw [Int.mul_comm, Int.mul_tdiv_cancel _ hl]
      · rw [Int.zero_mul, Int.zero_tdiv]

/-- All entries left of the right side are at most a. -/
def BdA (a : Nat) (h : Nat → Nat → Int) (n : Nat) : Prop := ∀ i j, i < n → j < n → (h i j).natAbs ≤ a
theorem swap_bdA {a n k p : Nat} {h : Nat → Nat → Int} (hb : BdA a h n) (hk : k < n) (hp : p < n) : BdA a (swapM h k p) n := by
  unfold swapM
  split
  · exact hb
  · intro i j hi hj
    dsimp only
    split
    · rw [Int.natAbs_neg]; exact hb p j hp hj
    · split
      · exact hb k j hk hj
      · exact hb i j hi hj
theorem red_bdA {a n k : Nat} {h : Nat → Nat → Int} (ha : 1 ≤ a) (hb : BdA a h n) (hk : k < n) (l : Int) : BdA (2 * a * a) (red h k l) n := by
  have e1 : a ≤ 2 * a * a := by
    have := Nat.mul_le_mul_right a (show 1 ≤ 2 * a by omega)
    omega
  intro i j hi hj
  unfold red
  split
  · exact Nat.le_trans (hb k j hk hj) e1
  · split
    · simp
    · exact diff_bd (hb i j hi hj) (hb k k hk hk) (hb i k hi hk) (hb k j hk hj) l
/-- All entries are 0 or 1. -/
def Bits (f : Nat → Nat → Int) (n : Nat) : Prop := ∀ i j, i < n → j < n → f i j = 0 ∨ f i j = 1
/-- After the first column all entries are still small. -/
theorem red_bits {n p : Nat} {f : Nat → Nat → Int} (hf : Bits f n) (hn : 0 < n) (hp : p < n) (hne : swapM f 0 p 0 0 ≠ 0) : BdA 1 (red (swapM f 0 p) 0 1) n := by
  have hs : ∃ s : Int, (s = 1 ∨ s = -1) ∧ (∀ j, j < n → swapM f 0 p 0 j = 0 ∨ swapM f 0 p 0 j = s) ∧ ∀ i j, i < n → j < n → i ≠ 0 → swapM f 0 p i j = 0 ∨ swapM f 0 p i j = 1 := by
    unfold swapM
    split
    · exact ⟨1, .inl rfl, fun j hj => hf 0 j hn hj, fun i j hi hj _ => hf i j hi hj⟩
    · refine ⟨-1, .inr rfl, fun j hj => ?_, fun i j hi hj h0 => ?_⟩
      · dsimp only
        rw [if_pos rfl]
        rcases hf p j hp hj with e | e <;> rw [e]
        · exact .inl rfl
        · exact .inr rfl
      · dsimp only
        rw [if_neg h0]
        split
        · exact hf 0 j hn hj
        · exact hf i j hi hj
  obtain ⟨s, hs1, hs2, hs3⟩ := hs
  have h00 : swapM f 0 p 0 0 = s := by
    rcases hs2 0 hn with e | e
    · exact absurd e hne
    · exact e
  intro i j hi hj
  unfold red
  by_cases e : i = 0
  · subst e
    rw [if_pos rfl]
    rcases hs2 j hj with e | e <;> rcases hs1 with e1 | e1 <;> rw [e] <;> simp [e1]
  · rw [if_neg e]
    split
    · simp
    · rw [Int.tdiv_one, h00]
      rcases hs2 j hj with e1 | e1 <;> rcases hs1 with e2 | e2 <;> rcases hs3 i j hi hj e with e3 | e3 <;> rcases hs3 i 0 hi hn e with e4 | e4 <;> rw [e1, e3, e4] <;> simp [e2]
/-- What holds after so many columns. -/
def bdS : Nat → Nat
  | 0 => 1
  | 1 => 1
  | 2 => 2
  | 3 => 8
  | _ => 128
structure StA (f h : Nat → Nat → Int) (l : Int) (n k : Nat) : Prop where
  nz : l ≠ 0
  crs : Crs l h n
  dgl : Dgl h l n k
  bd : BdA (bdS k) h n
  hom : ∀ y, Hom h n y ↔ Hom f n y
  lb : l.natAbs ≤ 8
theorem natAbs_one {x : Int} (h : x.natAbs ≤ 1) (h0 : x ≠ 0) : x = 1 ∨ x = -1 := by omega
theorem stA {f : Nat → Nat → Int} {n : Nat} (hf : Bits f n) (hn : n ≤ 4) : ∀ k h l, k ≤ n → slvTo f n k = some (h, l) → ((k < 4 → StA f h l n k) ∧ l ≠ 0 ∧ Dgl h l n k ∧ (∀ y, Hom h n y ↔ Hom f n y) ∧ l.natAbs ≤ 8) ∧ (k ≤ 2 → l = 1 ∨ l = -1) ∧ (k = 0 → h = f) := by
  intro k
  induction k with
  | zero =>
    intro h l _ e
    simp only [slvTo, Option.some.injEq, Prod.mk.injEq] at e
    obtain ⟨rfl, rfl⟩ := e
    have hd : Dgl f 1 n 0 := fun i j hi hj => by omega
    refine ⟨⟨fun _ => ⟨by decide, crs_unit (.inl rfl), hd, fun i j hi hj => ?_, fun y => Iff.rfl, by decide⟩, by decide, hd, fun y => Iff.rfl, by decide⟩, fun _ => .inl rfl, fun _ => rfl⟩
    rcases hf i j hi hj with e | e <;> rw [e] <;> decide
  | succ k ih =>
    intro h l hk e
    rw [slvTo] at e
    cases hs : slvTo f n k with
    | none => rw [hs] at e; cases e
    | some q =>
      obtain ⟨g, m⟩ := q
      rw [hs] at e
      simp only at e
      obtain ⟨⟨hst, _⟩, hu, h0⟩ := ih g m (by omega) hs
      have st := hst (by omega)
      have hpl := piv_le (h := g) (n := n) (k := k) (by omega)
      by_cases hp : piv g n k = n
      · rw [if_pos hp] at e; cases e
      · rw [if_neg hp] at e
        injection e with e
        injection e with e1 e2
        have hpn : piv g n k < n := by omega
        have hpz : swapM g k (piv g n k) k k ≠ 0 := swapM_piv (by omega) hpn
        have hc := crs_swap (show k < n by omega) hpn st.crs
        have hd := dgl_red (show k < n by omega) st.nz (dgl_swap hpl.1 hpn st.dgl)
        have hh : ∀ y, Hom (red (swapM g k (piv g n k)) k m) n y ↔ Hom f n y := fun y => by
          rw [hom_red (by omega) st.nz hpz hc, hom_swap (by omega) hpn, st.hom]
        have hbs := swap_bdA st.bd (show k < n by omega) hpn
        have hlb : (swapM g k (piv g n k) k k).natAbs ≤ bdS k := hbs k k (by omega) (by omega)
        have hl8 : bdS k ≤ 8 := by
          have : k = 0 ∨ k = 1 ∨ k = 2 ∨ k = 3 := by omega
          rcases this with rfl | rfl | rfl | rfl <;> decide
        have hu2 : k ≤ 1 → swapM g k (piv g n k) k k = 1 ∨ swapM g k (piv g n k) k k = -1 := by
          intro hk1
          refine natAbs_one (Nat.le_trans hlb ?_) hpz
          have : k = 0 ∨ k = 1 := by omega
          rcases this with rfl | rfl <;> decide
        rw [← e1, ← e2]
        refine ⟨⟨fun hk4 => ⟨hpz, ?_, hd, ?_, hh, by omega⟩, hpz, hd, hh, by omega⟩, fun hk2 => hu2 (by omega), fun h => by omega⟩
        · by_cases hk1 : k ≤ 1
          · exact crs_unit (hu2 hk1)
          · exact crs_red (hu (by omega)) (by omega)
        · by_cases hk0 : k = 0
          · subst hk0
            have hg := h0 rfl
            subst hg
            simp only [slvTo, Option.some.injEq, Prod.mk.injEq] at hs
            rw [← hs.2]
            exact red_bits hf (by omega) hpn hpz
          · have hb := red_bdA (show 1 ≤ bdS k by
              have : k = 1 ∨ k = 2 := by omega
              rcases this with rfl | rfl <;> decide) hbs (show k < n by omega) m
            have : k = 1 ∨ k = 2 := by omega
            rcases this with rfl | rfl <;> exact hb
theorem slv_some {f h : Nat → Nat → Int} {n : Nat} {l : Int} (hf : Bits f n) (hn : n ≤ 4) (e : slvTo f n n = some (h, l)) : l ≠ 0 ∧ l.natAbs ≤ 8 ∧ ∀ y, Hom f n y ↔ ∀ i, i < n → (l : Rat) * y i + (h i n : Rat) * y n = 0 := by
  obtain ⟨⟨_, h1, h2, h3, h4⟩, _⟩ := stA hf hn n h l (Nat.le_refl _) e
  refine ⟨h1, h4, fun y => ?_⟩
  rw [← h3 y]
  have key : ∀ i, i < n → sumQ (fun j => (h i j : Rat) * y j) (n + 1) = (l : Rat) * y i + (h i n : Rat) * y n := by
    intro i hi
    rw [sumQ]
    congr 1
    rw [sumQ_one hi (fun j hj hne => by rw [h2 i j hi hj, if_neg (fun e => hne e.symm)]; simp)]
    rw [h2 i i hi hi, if_pos rfl]
  constructor
  · intro H i hi
    rw [← key i hi]; exact H i hi
  · intro H i hi
    rw [key i hi]; exact H i hi
theorem slv_none {f : Nat → Nat → Int} {n : Nat} (hf : Bits f n) (hn : n ≤ 4) (e : slvTo f n n = none) : ∃ y, Hom f n y ∧ y n = 0 ∧ ∃ j, j < n ∧ y j ≠ 0 := by
  have key : ∀ k, k ≤ n → slvTo f n k = none → ∃ y, Hom f n y ∧ y n = 0 ∧ ∃ j, j < n ∧ y j ≠ 0 := by
    intro k
    induction k with
    | zero => intro _ e; cases e
    | succ k ih =>
      intro hk e
      rw [slvTo] at e
      cases hs : slvTo f n k with
      | none => exact ih (by omega) hs
      | some q =>
        obtain ⟨g, m⟩ := q
        rw [hs] at e
        simp only at e
        by_cases hp : piv g n k = n
        · obtain ⟨⟨_, h1, h2, h3, _⟩, _⟩ := stA hf hn k g m (by omega) hs
          have hz : ∀ r, k ≤ r → r < n → g r k = 0 := by
            intro r hr1 hr2
            have aux : ∀ d p, p + d = n → pivA g k d p = n → ∀ r, p ≤ r → r < n → g r k = 0 := by
              intro d
              induction d with
              | zero => intro p h _ r h1 h2; omega
              | succ d ih =>
                intro p hpd hpv r h1 h2
                rw [pivA] at hpv
                by_cases e0 : g p k = 0
                · rw [if_pos e0] at hpv
                  by_cases e1 : r = p
                  · rw [e1]; exact e0
                  · exact ih (p + 1) (by omega) hpv r (by omega) h2
                · rw [if_neg e0] at hpv; omega
            exact aux (n - k) k (by omega) hp r hr1 hr2
          refine ⟨fun j => if j < k then -((g j k : Int) : Rat) else if j = k then (m : Rat) else 0, ?_, ?_, k, by omega, ?_⟩
          · rw [← h3]
            intro i hi
            by_cases hik : i < k
            · have e1 := sumQ_skip (fun j => (g i j : Rat) * (if j < k then -((g j k : Int) : Rat) else if j = k then (m : Rat) else 0)) k n (by omega)
              rw [e1]
              simp only [Nat.lt_irrefl, if_false, if_true]
              rw [sumQ_one (k := i) (by omega) (fun j hj hne => ?_)]
              · unfold skip
                rw [if_pos hik, if_pos hik, h2 i i hi hik, if_pos rfl]
                grind
              · unfold skip
                by_cases hjk : j < k
                · rw [if_pos hjk, if_pos hjk, h2 i j hi hjk, if_neg (fun e => hne e.symm)]; simp
                · rw [if_neg hjk, if_neg (by omega), if_neg (by omega)]; simp
            · refine sumQ_zero fun j hj => ?_
              by_cases hjk : j < k
              · rw [h2 i j hi hjk, if_neg (by omega)]; simp
              · by_cases hjk2 : j = k
                · rw [hjk2, hz i (by omega) hi]; simp
                · show (g i j : Rat) * (if j < k then -((g j k : Int) : Rat) else if j = k then (m : Rat) else 0) = 0
                  rw [if_neg hjk, if_neg hjk2]; simp
          · dsimp only
            rw [if_neg (by omega), if_neg (by omega)]
          · dsimp only
            rw [if_neg (by omega), if_pos rfl]
            simpa using h1
        · rw [if_neg hp] at e; cases e
  exact key n (Nat.le_refl _) e

/- Rows of ints that a call owns and may write. No program. -/

/-- Rows of ints that the call owns, each in a later block than those before it. -/
def ORows (w : World) (base : Nat) (vs : List Value) (L : List (List Int)) : Prop :=
  vs.length = L.length ∧ (∀ (j : Nat) (os : List Int), L[j]? = some os → ∃ A c, vs[j]? = some (.slice A os.length c) ∧ w.ownsRow base 3 1 (.slice A os.length c) os.length (os.map (Value.int .i64))) ∧
  ∀ (i j : Nat) (a b : Addr) (n c n' c' : Nat), i < j → vs[i]? = some (.slice (some a) n c) → vs[j]? = some (.slice (some b) n' c') → a.block < b.block

theorem own_ne {w : World} {base base' n n' : Nat} {v v' : Value} {xs ys : List Value} (h : w.ownsRow base 3 1 v n xs) (h' : w.ownsRow base' 22 1 v' n' ys) (hs : v.ownBlock.isSome) : v.ownBlock ≠ v'.ownBlock := by
  intro he
  rcases h.2 with ⟨h0, _⟩ | ⟨g, cap, cur, hv, _, hg, _⟩
  · subst h0; cases hs
  · rcases h'.2 with ⟨h0, _⟩ | ⟨g', cap', cur', hv', _, hg', _⟩
    · subst h0; subst hv; cases he
    · subst hv; subst hv'
      injection he with he
      have : g = g' := he
      subst this
      rw [hg] at hg'
      injection hg' with h1
      injection h1 with _ h1 _
      exact absurd h1 (by decide)
theorem own_grown_ne {w w' : World} {base base' n n' : Nat} {v v' : Value} {xs ys : List Value} (h : w.ownsRow base 3 1 v n xs) (h' : w.ownsRow base' 22 1 v' n' ys) (hg : w.grownBy w' v'.ownBlock) : w'.ownsRow base 3 1 v n xs := by
  refine ⟨h.1, ?_⟩
  rcases h.2 with h0 | ⟨g, cap, cur, hv, a1, a2, a3⟩
  · exact .inl h0
  · refine .inr ⟨g, cap, cur, hv, a1, ?_, a3⟩
    have hne := own_ne h h' (by rw [hv]; rfl)
    rw [hv] at hne
    exact (hg.block g (lt_of_block a2) hne).trans a2
section
variable {w w' : World} {base : Nat} {vs : List Value} {L : List (List Int)}
theorem ORows.nil (w : World) (base : Nat) : ORows w base [] [] := ⟨rfl, fun j os h => by simp at h, fun i j a b n c n' c' _ h => by simp at h⟩
theorem ORows.below (h : ORows w base vs L) (hb : Below w.heap.size w w') : ORows w' base vs L :=
  ⟨h.1, fun j os hj => by obtain ⟨A, c, h1, h2⟩ := h.2.1 j os hj; exact ⟨A, c, h1, own_below h2 hb⟩, h.2.2⟩
theorem ORows.grown {base' n : Nat} {v' : Value} {xs : List Value} (h : ORows w base vs L) (hown : w.ownsRow base' 22 1 v' n xs) (hg : w.grownBy w' v'.ownBlock) : ORows w' base vs L :=
  ⟨h.1, fun j os hj => by obtain ⟨A, c, h1, h2⟩ := h.2.1 j os hj; exact ⟨A, c, h1, own_grown_ne h2 hown hg⟩, h.2.2⟩
theorem ORows.lt (h : ORows w base vs L) : ∀ (i : Nat) (a : Addr) (n c : Nat), vs[i]? = some (.slice (some a) n c) → a.block < w.heap.size := by
  intro i a n c hi
  have hil : i < L.length := by rw [← h.1]; exact (List.getElem?_eq_some_iff.1 hi).1
  obtain ⟨A, c', h1, h2⟩ := h.2.1 i _ (List.getElem?_eq_getElem hil)
  rw [h1] at hi
  injection hi with hi
  injection hi with e1 _ _
  subst e1
  rcases h2.2 with ⟨h0, _⟩ | ⟨g, cap, cur, hv, _, hg, _⟩
  · cases h0
  · injection hv with e1 _ _
    injection e1 with e1
    subst e1
    exact lt_of_block hg
theorem ORows.snoc {w2 : World} {b2 : Nat} {A : Option Addr} {c : Nat} {os : List Int} (h : ORows w2 base vs L) (hb : base ≤ b2) (hown : w2.ownsRow b2 3 1 (.slice A os.length c) os.length (os.map (Value.int .i64)))
    (hlt : ∀ (i : Nat) (a : Addr) (n c : Nat), vs[i]? = some (.slice (some a) n c) → a.block < b2) : ORows w2 base (vs ++ [.slice A os.length c]) (L ++ [os]) := by
  refine ⟨by simp [h.1], fun j r hj => ?_, fun i j a b n c1 n' c2 hij hi hj => ?_⟩
  · by_cases hl : j < L.length
    · rw [List.getElem?_append_left hl] at hj
      rw [List.getElem?_append_left (by rw [h.1]; exact hl)]
      exact h.2.1 j r hj
    · have hj' : j = L.length := by
        have := (List.getElem?_eq_some_iff.1 hj).1
        simp at this; omega
      subst hj'
      rw [List.getElem?_append_right (Nat.le_refl _)] at hj
      simp at hj
      subst hj
      refine ⟨A, c, by rw [List.getElem?_append_right (by rw [h.1]; exact Nat.le_refl _)]; simp [h.1], hown.1, ?_⟩
      rcases hown.2 with h0 | ⟨g, cap, cur, hv, a1, a2⟩
      · exact .inl h0
      · exact .inr ⟨g, cap, cur, hv, by omega, a2⟩
  · have hjl := (List.getElem?_eq_some_iff.1 hj).1
    simp at hjl
    rw [List.getElem?_append_left (by omega)] at hi
    by_cases hl : j < vs.length
    · rw [List.getElem?_append_left hl] at hj
      exact h.2.2 i j a b n c1 n' c2 hij hi hj
    · have : j = vs.length := by omega
      subst this
      rw [List.getElem?_append_right (Nat.le_refl _)] at hj
      simp at hj
      obtain ⟨e1, e2, e3⟩ := hj
      subst e1
      have h1 := hlt i a n c1 hi
      rcases hown.2 with ⟨h0, _⟩ | ⟨g, cap, cur, hv, a1, _⟩
      · cases h0
      · injection hv with e1 _ _
        injection e1 with e1
        subst e1
        show a.block < g
        omega
theorem ORows.rows (h : ORows w base vs L) : Rows w 0 vs L :=
  ⟨h.1, fun j os hj => by obtain ⟨A, c, h1, h2⟩ := h.2.1 j os hj; exact ⟨_, h1, Row1.of_own h2 0⟩⟩
end

/- Contracts of slices.Min and slices.Max over costs. -/

set_option maxHeartbeats 400000 in
theorem minC_any (A : Option Addr) (n cap : Nat) (xs : List Int) (w : World) (hl : xs.length = n) (hp : 0 < n) (hm : n ≤ 9223372036854775807) (h : Ints w A xs) :
    Calls Tryd.prog 52 #[.slice A n cap] w fun e w' => e = .returned (.int .i64 (lmin xs)) ∧ w = w' := by
  obtain ⟨ad, rfl, hb, hc⟩ := h.some_ (by omega)
  obtain ⟨x0, hx0⟩ : ∃ x, xs[0]? = some x := ⟨_, List.getElem?_eq_getElem (by omega)⟩
  have c0 : w.cell? ad = some (.int .i64 x0) := hc 0 x0 hx0
  have e0 : lmin (xs.take 1) = x0 := by rw [take_succ' hx0]; simp [lmin]
  have HE := Lib.hid e0
  have HC := Lib.hid hc
  have HL := Lib.hid hl
  have HX0 := Lib.hid hx0
  clear hc hl h hb e0 hx0
  go_enter Tryd.func52, Tryd.ntmps52
  go_wp2
  go_loop [3, 4] (fun m i => ∃ k : Nat, 1 ≤ k ∧ k ≤ n ∧ i = .int .i64 k ∧ m = .int .i64 (lmin (xs.take k))) (fun _ i => n - (intOf i).toNat)
  case atStart => exact ⟨1, by omega, by omega, rfl, by rw [HE.out]⟩
  case round =>
    obtain ⟨k, hk1, hk, rfl, rfl⟩ := hrel
    by_cases hlt : k < n
    · obtain ⟨x, hx⟩ : ∃ x, xs[k]? = some x := ⟨_, List.getElem?_eq_getElem (by rw [HL.out]; exact hlt)⟩
      have hcell := HC.out k x hx
      have HT := Lib.hid (lmin_take hx (by omega))
      have HX := Lib.hid hx
      clear hx
      go_wp2
      go_round
      case rel => exact ⟨k + 1, by omega, by omega, by go_num, val_int (by rw [HT.out]; split <;> omega)⟩
      case measure => simp [intOf]; omega
    · have HT : Hid (lmin (xs.take k) = lmin xs) := Lib.hid (by rw [List.take_of_length_le (by rw [HL.out]; omega)])
      go_wp2
      go_ret
      exact ⟨ret_int HT.out, rfl⟩

set_option maxHeartbeats 400000 in
theorem maxC_any (A : Option Addr) (n cap : Nat) (xs : List Int) (w : World) (hl : xs.length = n) (hp : 0 < n) (hm : n ≤ 9223372036854775807) (h : Ints w A xs) :
    Calls Tryd.prog 53 #[.slice A n cap] w fun e w' => e = .returned (.int .i64 (lmax xs)) ∧ w = w' := by
  obtain ⟨ad, rfl, hb, hc⟩ := h.some_ (by omega)
  obtain ⟨x0, hx0⟩ : ∃ x, xs[0]? = some x := ⟨_, List.getElem?_eq_getElem (by omega)⟩
  have c0 : w.cell? ad = some (.int .i64 x0) := hc 0 x0 hx0
  have e0 : lmax (xs.take 1) = x0 := by rw [take_succ' hx0]; simp [lmax]
  have HE := Lib.hid e0
  have HC := Lib.hid hc
  have HL := Lib.hid hl
  have HX0 := Lib.hid hx0
  clear hc hl h hb e0 hx0
  go_enter Tryd.func53, Tryd.ntmps53
  go_wp2
  go_loop [3, 4] (fun m i => ∃ k : Nat, 1 ≤ k ∧ k ≤ n ∧ i = .int .i64 k ∧ m = .int .i64 (lmax (xs.take k))) (fun _ i => n - (intOf i).toNat)
  case atStart => exact ⟨1, by omega, by omega, rfl, by rw [HE.out]⟩
  case round =>
    obtain ⟨k, hk1, hk, rfl, rfl⟩ := hrel
    by_cases hlt : k < n
    · obtain ⟨x, hx⟩ : ∃ x, xs[k]? = some x := ⟨_, List.getElem?_eq_getElem (by rw [HL.out]; exact hlt)⟩
      have hcell := HC.out k x hx
      have HT := Lib.hid (lmax_take hx (by omega))
      have HX := Lib.hid hx
      clear hx
      go_wp2
      go_round
      case rel => exact ⟨k + 1, by omega, by omega, by go_num, val_int (by rw [HT.out]; split <;> omega)⟩
      case measure => simp [intOf]; omega
    · have HT : Hid (lmax (xs.take k) = lmax xs) := Lib.hid (by rw [List.take_of_length_le (by rw [HL.out]; omega)])
      go_wp2
      go_ret
      exact ⟨ret_int HT.out, rfl⟩

/- What valid costs are, as plain Lean; no program. -/

/-- A number from 0 to 1000. -/
def inR (x : Int) : Bool := decide (0 ≤ x) && decide (x ≤ 1000)
/-- Valid costs. -/
def valC (xs : List Int) : Bool := (decide (xs.length = 2) || decide (xs.length = 4) || decide (xs.length = 8) || decide (xs.length = 16)) && (xs.getD 0 1 == 0) && xs.all inR
/-- How many players; 0: the costs are not valid. -/
def plr (xs : List Int) : Nat := if valC xs then (if xs.length = 2 then 1 else if xs.length = 4 then 2 else if xs.length = 8 then 3 else 4) else 0
theorem plr_bad {xs : List Int} (h : valC xs = false) : plr xs = 0 := by simp [plr, h]
theorem valC_len {xs : List Int} (h : xs.length ≠ 2 ∧ xs.length ≠ 4 ∧ xs.length ≠ 8 ∧ xs.length ≠ 16) : valC xs = false := by simp [valC, h]
theorem valC_elem {xs : List Int} {k : Nat} {x : Int} (hx : xs[k]? = some x) (h : inR x = false) : valC xs = false := by
  have : xs.all inR = false := by
    rw [List.all_eq_false]
    exact ⟨x, List.mem_of_getElem? hx, by simp [h]⟩
  simp [valC, this]
theorem valC_head {xs : List Int} {x : Int} (hx : xs[0]? = some x) (h : (x == 0) = false) : valC xs = false := by
  have : xs.getD 0 1 = x := by rw [List.getD_eq_getElem?_getD, hx]; rfl
  simp only [valC, this, h]; simp
theorem valC_ok {xs : List Int} {x : Int} (hl : xs.length = 2 ∨ xs.length = 4 ∨ xs.length = 8 ∨ xs.length = 16) (hx : xs[0]? = some x) (h : (x == 0) = true) (ha : xs.all inR = true) : valC xs = true := by
  have e : xs.getD 0 1 = x := by rw [List.getD_eq_getElem?_getD, hx]; rfl
  simp only [valC, e, h, ha]
  rcases hl with h | h | h | h <;> simp [h]
theorem all_take_succ {xs : List Int} {k : Nat} {x : Int} (hx : xs[k]? = some x) (h : (xs.take k).all inR = true) (hr : inR x = true) : (xs.take (k + 1)).all inR = true := by
  rw [take_succ' hx, List.all_append, h]; simp [hr]
theorem valC_iff {xs : List Int} : valC xs = true ↔ (xs.length = 2 ∨ xs.length = 4 ∨ xs.length = 8 ∨ xs.length = 16) ∧ xs.getD 0 1 = 0 ∧ ∀ x ∈ xs, 0 ≤ x ∧ x ≤ 1000 := by
  simp [valC, inR, and_assoc, or_assoc]
theorem valC_pow {c : List Int} (h : valC c = true) : c.length = 2 ^ plr c ∧ 1 ≤ plr c ∧ plr c ≤ 4 := by
  have h1 := (valC_iff.1 h).1
  unfold plr
  rw [if_pos h]
  rcases h1 with h | h | h | h <;> simp [h]
theorem take18 {xs : List Int} (h : xs.length ≤ 18) : xs.take 18 = xs := List.take_of_length_le h
theorem valC_take (xs : List Int) : valC (xs.take 18) = valC xs := by
  by_cases h : xs.length ≤ 18
  · rw [take18 h]
  · rw [valC_len (xs := xs) (by omega), valC_len (by rw [List.length_take]; omega)]


/- Contracts: valid and players of package games. -/

theorem has_len (n : Nat) : has [2, 4, 8, 16] (n : Int) = (decide (n = 2) || decide (n = 4) || decide (n = 8) || decide (n = 16)) := by
  unfold has
  rw [Bool.eq_iff_iff]
  simp
  omega

set_option maxHeartbeats 800000 in
theorem valid_any (A : Option Addr) (n cap : Nat) (xs : List Int) (w : World) (hl : xs.length = n) (hm : n ≤ 9223372036854775807) (h : Ints w A xs) :
    Calls Tryd.prog 23 #[.slice A n cap] w fun e w' => e = .returned (.bool (valC xs)) ∧ Below w.heap.size w w' := by
  have hI : Ints (w.alloc (.cells #[.int .i64 2, .int .i64 4, .int .i64 8, .int .i64 16] 3)) (some ⟨w.heap.size, 0, none⟩) [2, 4, 8, 16] := Blk.ints (xs := [2, 4, 8, 16]) (Blk.new w 3 _ rfl)
  have hI2 : Ints (w.alloc (.cells #[.int .i64 2, .int .i64 4, .int .i64 8, .int .i64 16] 3)) A xs := h.below ((Below.refl _ _).alloc (Nat.le_refl _) _)
  have HI := Lib.hid hI
  have HI2 := Lib.hid hI2
  have HL := Lib.hid hl
  clear hI hI2
  cases hh : has [2, 4, 8, 16] (n : Int)
  · have HH := Lib.hid hh
    have hv : valC xs = false := valC_len (by rw [has_len] at hh; simp at hh; omega)
    rw [hv]
    clear hh hv hl h
    go_enter Tryd.func23, Tryd.ntmps23
    go_wp2_with fail
    refine (contains_any _ 4 4 [2, 4, 8, 16] n _ rfl (by omega) HI.out).mono ?_
    rintro e w' ⟨rfl, rfl⟩
    rw [HH.out]
    go_wp2
    go_ret
    exact ⟨rfl, (Below.refl _ _).alloc (Nat.le_refl _) _⟩
  · have hn : n = 2 ∨ n = 4 ∨ n = 8 ∨ n = 16 := by rw [has_len] at hh; simp at hh; omega
    obtain ⟨x0, hx0⟩ : ∃ x, xs[0]? = some x := ⟨_, List.getElem?_eq_getElem (by omega)⟩
    obtain ⟨ad, rfl, hb, hc⟩ := h.some_ (by omega)
    have c0 : w.cell? ad = some (.int .i64 x0) := hc 0 x0 hx0
    have c0' : (w.alloc (.cells #[.int .i64 2, .int .i64 4, .int .i64 8, .int .i64 16] 3)).cell? ad = some (.int .i64 x0) := (World.cell?_alloc_lt _ _ _ (lt_of_cell c0)).trans c0
    have hpos : 0 < n := by omega
    have HN := Lib.hid hn
    have HH := Lib.hid hh
    have HX0 := Lib.hid hx0
    have hne : xs ≠ [] := by rintro rfl; simp at hl; omega
    have HNE := Lib.hid hne
    clear hn hh hx0 h hb hc hl hne c0
    cases h0 : (x0 == 0)
    · have HV := Lib.hid (valC_head HX0.out h0)
      rw [HV.out]
      go_enter Tryd.func23, Tryd.ntmps23
      go_wp2_with fail
      refine (contains_any _ 4 4 [2, 4, 8, 16] n _ rfl (by omega) HI.out).mono ?_
      rintro e w' ⟨rfl, rfl⟩
      rw [HH.out]
      go_wp2
      go_ret
      exact ⟨rfl, (Below.refl _ _).alloc (Nat.le_refl _) _⟩
    · by_cases h1 : 0 ≤ lmin xs
      · by_cases h2 : lmax xs ≤ 1000
        · have hv : valC xs = true := valC_ok (by rw [HL.out]; exact HN.out) HX0.out h0 (by
            rw [List.all_eq_true]
            intro x hx
            have a1 := (lmin_ge HNE.out 0).1 h1 x hx
            have a2 := (lmax_le HNE.out 1000).1 h2 x hx
            simp [inR, a1, a2])
          rw [hv]
          clear hv
          go_enter Tryd.func23, Tryd.ntmps23
          go_wp2_with fail
          refine (contains_any _ 4 4 [2, 4, 8, 16] n _ rfl (by omega) HI.out).mono ?_
          rintro e w' ⟨rfl, rfl⟩
          rw [HH.out]
          go_wp2_with fail
          refine (minC_any _ n cap xs _ HL.out hpos hm HI2.out).mono ?_
          rintro e w' ⟨rfl, rfl⟩
          go_wp2_with fail
          refine (maxC_any _ n cap xs _ HL.out hpos hm HI2.out).mono ?_
          rintro e w' ⟨rfl, rfl⟩
          go_wp2
          go_ret
          exact ⟨rfl, (Below.refl _ _).alloc (Nat.le_refl _) _⟩
        · have hv : valC xs = false := by
            rw [← Bool.not_eq_true, valC_iff]
            rintro ⟨_, _, ha⟩
            exact h2 ((lmax_le HNE.out 1000).2 fun x hx => (ha x hx).2)
          rw [hv]
          clear hv
          go_enter Tryd.func23, Tryd.ntmps23
          go_wp2_with fail
          refine (contains_any _ 4 4 [2, 4, 8, 16] n _ rfl (by omega) HI.out).mono ?_
          rintro e w' ⟨rfl, rfl⟩
          rw [HH.out]
          go_wp2_with fail
          refine (minC_any _ n cap xs _ HL.out hpos hm HI2.out).mono ?_
          rintro e w' ⟨rfl, rfl⟩
          go_wp2_with fail
          refine (maxC_any _ n cap xs _ HL.out hpos hm HI2.out).mono ?_
          rintro e w' ⟨rfl, rfl⟩
          go_wp2
          go_ret
          exact ⟨ret_bool (decide_eq_false (by omega)), (Below.refl _ _).alloc (Nat.le_refl _) _⟩
      · have hv : valC xs = false := by
          rw [← Bool.not_eq_true, valC_iff]
          rintro ⟨_, _, ha⟩
          exact h1 ((lmin_ge HNE.out 0).2 fun x hx => (ha x hx).1)
        rw [hv]
        clear hv
        go_enter Tryd.func23, Tryd.ntmps23
        go_wp2_with fail
        refine (contains_any _ 4 4 [2, 4, 8, 16] n _ rfl (by omega) HI.out).mono ?_
        rintro e w' ⟨rfl, rfl⟩
        rw [HH.out]
        go_wp2_with fail
        refine (minC_any _ n cap xs _ HL.out hpos hm HI2.out).mono ?_
        rintro e w' ⟨rfl, rfl⟩
        go_wp2
        go_ret
        exact ⟨rfl, (Below.refl _ _).alloc (Nat.le_refl _) _⟩

/-- players of costs of 2, 4, 8 or 16 numbers. -/
theorem players_any (A : Option Addr) (n k cap : Nat) (w : World) (h : n = 2 ∧ k = 1 ∨ n = 4 ∧ k = 2 ∨ n = 8 ∧ k = 3 ∨ n = 16 ∧ k = 4) :
    Calls Tryd.prog 24 #[.slice A n cap] w fun e w' => e = .returned (.int .i64 k) ∧ w = w' := by
  rcases h with ⟨rfl, rfl⟩ | ⟨rfl, rfl⟩ | ⟨rfl, rfl⟩ | ⟨rfl, rfl⟩
  all_goals
    go_enter Tryd.func24, Tryd.ntmps24
    go_wp2
    refine wp_loop_rounds 6 ?_
    repeat (rw [rounds_succ]; go_wp2)
    go_ret
    exact ⟨rfl, rfl⟩

/- A list of owned rows as a system of equations; contract: row of package games. -/

theorem own_cell {w : World} {base e n c g : Nat} {xs : List Value} (h : w.ownsRow base e 1 (.slice (some ⟨g, 0, none⟩) n c) n xs) {j : Nat} {v : Value} (hv : xs[j]? = some v) : w.cell? ⟨g, j, none⟩ = some v ∧ w.frozen? ⟨g, j, none⟩ = false := by
  refine ⟨?_, ?_⟩
  · have := h.cells (g := g) rfl j v hv
    have e : (⟨g, 0, none⟩ : Addr).add j = ⟨g, j, none⟩ := by cases j <;> simp [Addr.add]
    rwa [e] at this
  · rcases h.2 with ⟨h0, _⟩ | ⟨g', cap, cur, hv', _, hg, _⟩
    · cases h0
    · injection hv' with e1
      injection e1 with e1
      injection e1 with e1
      subst e1
      simp [World.frozen?, hg]

/-- The block and the capacity of a slice value. -/
def blkOf : Value → Nat
  | .slice (some a) _ _ => a.block
  | _ => 0
def capOf : Value → Nat
  | .slice _ _ c => c
  | _ => 0

/-- The entries of rows. -/
def entry (L : List (List Int)) (i j : Nat) : Int := (L.getD i []).getD j 0

theorem mtx_of {w : World} {base g n cap : Nat} {vs : List Value} {L : List (List Int)} (ho : w.ownsRow base 22 1 (.slice (some ⟨g, 0, none⟩) n cap) n vs) (hr : ORows w base vs L) (hL : L.length = n) (hrow : ∀ r ∈ L, r.length = n + 1) :
    ∃ R C, Mtx w g n R C (entry L) ∧ base ≤ g ∧ ∀ i, i < n → base ≤ R i := by
  have key : ∀ i, i < n → ∃ b c, vs[i]? = some (.slice (some ⟨b, 0, none⟩) (n + 1) c) ∧ w.ownsRow base 3 1 (.slice (some ⟨b, 0, none⟩) (n + 1) c) (n + 1) ((L.getD i []).map (Value.int .i64)) ∧ (L.getD i []).length = n + 1 ∧ base ≤ b := by
    intro i hi
    have hLi : L[i]? = some (L.getD i []) := by rw [List.getD_eq_getElem?_getD, List.getElem?_eq_getElem (by omega)]; rfl
    obtain ⟨A, c, h1, h2⟩ := hr.2.1 i _ hLi
    have hlen := hrow _ (List.mem_of_getElem? hLi)
    rw [hlen] at h1 h2
    obtain ⟨b, rfl, hb, _⟩ := own_some h2 (by omega)
    exact ⟨b, c, h1, h2, hlen, hb⟩
  have hval : ∀ i, i < n → vs[i]? = some (.slice (some ⟨blkOf (vs.getD i .nilFunc), 0, none⟩) (n + 1) (capOf (vs.getD i .nilFunc))) := by
    intro i hi
    obtain ⟨b, c, h1, _⟩ := key i hi
    have e : vs.getD i .nilFunc = .slice (some ⟨b, 0, none⟩) (n + 1) c := by rw [List.getD_eq_getElem?_getD, h1]; rfl
    rw [e, h1]; rfl
  have hblk : ∀ i, i < n → w.ownsRow base 3 1 (.slice (some ⟨blkOf (vs.getD i .nilFunc), 0, none⟩) (n + 1) (capOf (vs.getD i .nilFunc))) (n + 1) ((L.getD i []).map (Value.int .i64)) ∧ base ≤ blkOf (vs.getD i .nilFunc) := by
    intro i hi
    obtain ⟨b, c, h1, h2, _, h4⟩ := key i hi
    have e : vs.getD i .nilFunc = .slice (some ⟨b, 0, none⟩) (n + 1) c := by rw [List.getD_eq_getElem?_getD, h1]; rfl
    rw [e]
    exact ⟨h2, h4⟩
  refine ⟨fun i => blkOf (vs.getD i .nilFunc), fun i => capOf (vs.getD i .nilFunc), ⟨fun i hi => own_cell ho (hval i hi), fun i j hi hj => ?_, fun i j hi hj e => ?_, fun i hi => ?_⟩, ?_, fun i hi => (hblk i hi).2⟩
  · obtain ⟨_, _, _, _, hlen, _⟩ := key i hi
    refine own_cell (hblk i hi).1 ?_
    rw [List.getElem?_map, List.getElem?_eq_getElem (by rw [hlen]; omega)]
    unfold entry
    rw [List.getD_eq_getElem?_getD (l := L.getD i []), List.getElem?_eq_getElem (by rw [hlen]; omega)]
    rfl
  · rcases Nat.lt_trichotomy i j with h | h | h
    · have := hr.2.2 i j _ _ _ _ _ _ h (hval i hi) (hval j hj)
      simp only at e this
      omega
    · exact h
    · have := hr.2.2 j i _ _ _ _ _ _ h (hval j hj) (hval i hi)
      simp only at e this
      omega
  · intro e
    have := own_ne (hblk i hi).1 ho rfl
    apply this
    show some _ = some _
    rw [e]
  · rcases ho.2 with ⟨h0, _⟩ | ⟨g', cap', cur, hv, hb, _⟩
    · cases h0
    · injection hv with e1
      injection e1 with e1
      injection e1 with e1
      rw [e1]; exact hb

/-- Whether player i is in set s. -/
def bitI (s i : Nat) : Int := ((if s.testBit i then 1 else 0 : Nat) : Int)
/-- A set as the row of a system. -/
def rowL (n s : Nat) (x : Int) : List Int := (List.range n).map (fun i => bitI s i) ++ [x]
theorem rowL_length (n s : Nat) (x : Int) : (rowL n s x).length = n + 1 := by simp [rowL]
theorem bitI_cases (s i : Nat) : bitI s i = 0 ∨ bitI s i = 1 := by unfold bitI; cases s.testBit i <;> simp

set_option maxHeartbeats 800000 in
theorem crow_any (A : Option Addr) (N cap n s : Nat) (x : Int) (w : World) (h : N = 2 ∧ n = 1 ∨ N = 4 ∧ n = 2 ∨ N = 8 ∧ n = 3 ∨ N = 16 ∧ n = 4) (hs : s < 16) :
    Calls Tryd.prog 40 #[.slice A N cap, .int .i64 s, .int .i64 x] w fun e w' => ∃ g c, e = .returned (.slice (some ⟨g, 0, none⟩) (n + 1) c) ∧ w'.ownsRow w.heap.size 3 1 (.slice (some ⟨g, 0, none⟩) (n + 1) c) (n + 1) ((rowL n s x).map (Value.int .i64)) ∧ Below w.heap.size w w' := by
  have hn4 : n ≤ 4 := by omega
  have H := Lib.hid h
  clear h
  go_enter Tryd.func40, Tryd.ntmps40
  go_wp2_with fail
  refine (players_any A N n cap w H.out).mono ?_
  rintro e w' ⟨rfl, rfl⟩
  go_wp2_with fail
  go_loopw [7, 11] (fun ov iv wr => ∃ (k : Nat) (B : Option Addr) (bc : Nat), k ≤ n ∧ iv = .int .i64 k ∧ ov = .slice B k bc ∧ wr.ownsRow w.heap.size 3 1 (.slice B k bc) k (((List.range k).map (fun i => bitI s i)).map (Value.int .i64)) ∧ Below w.heap.size w wr) (fun _ iv _ => n - (intOf iv).toNat)
  case atStart => exact ⟨0, none, 0, Nat.zero_le _, rfl, rfl, World.ownsRow_nil _ _ _ _, Below.refl _ _⟩
  case round =>
    obtain ⟨k, B, bc, hk, rfl, rfl, hown, hbl⟩ := hrel
    have HR := Lib.hid (And.intro hown hbl)
    have hws := hbl.size
    clear hown hbl
    by_cases hlt : k < n
    · have HNEW : Hid (((List.range (k + 1)).map (fun i => bitI s i)).map (Value.int .i64) = ((List.range k).map (fun i => bitI s i)).map (Value.int .i64) ++ [.int .i64 (bitI s k)]) := Lib.hid (by rw [List.range_succ]; simp)
      have eb : bits .and .i64 ((s : Int) / 2 ^ k) 1 = bitI s k := and_shr s k (by omega)
      obtain ⟨b, hb⟩ : ∃ b, b = bitI s k := ⟨_, rfl⟩
      rw [← hb] at eb HNEW
      have l1 : (k : Int) < (n : Int) := by omega
      clear hb
      go_wp2_with (at_builtin; refine app1 sty_int rfl _ _ rfl w.heap.size B k bc _ #[.int .i64 b] rfl (by simp [Value.oneCell']) rfl HR.out.1 rfl (by omega) (by omega) ?_)
      intro A4 k4 w4 hown4 _ hbl4 hk41 hk42
      have HR4 : Hid (w4.ownsRow w.heap.size 3 1 (.slice A4 (k + 1) k4) (k + 1) (((List.range (k + 1)).map (fun i => bitI s i)).map (Value.int .i64)) ∧ Below w.heap.size w w4) := Lib.hid ⟨by rw [HNEW.out, List.map_map]; exact hown4, HR.out.2.trans hbl4⟩
      clear hown4 hbl4
      go_wp2_with fail
      go_roundw
      case rel => exact ⟨k + 1, A4, k4, by omega, by go_num, rfl, HR4.out.1, HR4.out.2⟩
      case measure => simp [intOf]; omega
    · obtain rfl : n = k := by omega
      go_wp2_with (at_builtin; refine app1 sty_int rfl _ _ rfl w.heap.size B n bc _ #[.int .i64 x] rfl (by simp [Value.oneCell']) rfl HR.out.1 rfl (by omega) (by omega) ?_)
      intro A4 k4 w4 hown4 _ hbl4 hk41 hk42
      obtain ⟨g4, rfl, _, _⟩ := own_some hown4 (by omega)
      have HR4 : Hid (w4.ownsRow w.heap.size 3 1 (.slice (some ⟨g4, 0, none⟩) (n + 1) k4) (n + 1) ((rowL n s x).map (Value.int .i64)) ∧ Below w.heap.size w w4) := Lib.hid ⟨by rw [show (rowL n s x).map (Value.int .i64) = ((List.range n).map (fun i => bitI s i)).map (Value.int .i64) ++ [.int .i64 x] from by simp [rowL], List.map_map]; exact hown4, HR.out.2.trans hbl4⟩
      clear hown4 hbl4
      go_wp2_with fail
      go_ret
      exact ⟨g4, k4, rfl, HR4.out⟩

/- Contract: solve of package games. -/

/-- What solve leaves. -/
def SolvePost (f : Nat → Nat → Int) (n B : Nat) (w : World) (e : Ending) (w' : World) : Prop :=
  (slvTo f n n = none ∧ e = .returned (.tuple #[.slice none 0 0, .int .i64 0]) ∧ Below B w w') ∨
  ∃ h l A c, slvTo f n n = some (h, l) ∧ e = .returned (.tuple #[.slice A n c, .int .i64 l]) ∧ w'.ownsRow B 3 1 (.slice A n c) n ((List.range n).map fun i => .int .i64 (h i n)) ∧ Below B w w'

set_option maxRecDepth 100000 in
set_option maxHeartbeats 3200000 in
theorem solve_any (g cap n : Nat) (R C : Nat → Nat) (f : Nat → Nat → Int) (B : Nat) (w : World) (hn : 1 ≤ n ∧ n ≤ 4) (hM : Mtx w g n R C f) (hg : B ≤ g) (hR : ∀ i, i < n → B ≤ R i) (hs : SafeM f n) (hB : B ≤ w.heap.size) :
    Calls Tryd.prog 41 #[.slice (some ⟨g, 0, none⟩) n cap] w (SolvePost f n B w) := by
  have H := Lib.hid (And.intro hM (And.intro hR hs))
  clear hM hR hs
  go_enter Tryd.func41, Tryd.ntmps41
  go_wp2_with fail
  go_loopg [2, 5, 15] (n + 1) (fun gh rv lv kv wr => ∃ (k : Nat) (R C : Nat → Nat) (h : Nat → Nat → Int) (l : Int), k ≤ n ∧ rv = .slice none 0 0 ∧ gh = n + 1 - k ∧ kv = .int .i64 k ∧ lv = .int .i64 l ∧ slvTo f n k = some (h, l) ∧ Mtx wr g n R C h ∧ (∀ i, i < n → B ≤ R i) ∧ Below B w wr)
  case atStart => exact ⟨0, R, C, f, 1, Nat.zero_le _, rfl, rfl, rfl, rfl, rfl, H.out.1, H.out.2.1, Below.refl _ _⟩
  case round =>
    obtain ⟨k, R, C, h, l, hk, rfl, hgh, rfl, rfl, hsl, hM, hR, hbl⟩ := hrel
    have hsafe := H.out.2.2 k h l hk hsl
    have HR := Lib.hid (And.intro hsl (And.intro hM (And.intro hR (And.intro hbl hsafe))))
    have hl0 := hsafe.1
    have hl1 := hsafe.2.1
    have hl2 := hsafe.2.2.1
    clear hsl hM hR hbl hsafe
    by_cases hlt : k < n
    · have l1 : (k : Int) < (n : Int) := by omega
      go_wp2_with fail
      go_loop [7] (fun pv => ∃ p : Nat, k ≤ p ∧ p ≤ n ∧ pv = .int .i64 p ∧ ∀ r, k ≤ r → r < p → h r k = 0) (fun pv => n - (intOf pv).toNat)
      case atStart => exact ⟨k, Nat.le_refl _, hk, rfl, fun r h1 h2 => by omega⟩
      case round =>
        obtain ⟨p, hkp, hp, rfl, h0⟩ := hrel
        have HP := Lib.hid h0
        clear h0
        by_cases hpn : p < n
        · have a1 := (HR.out.2.1.rows p hpn).1
          have a2 := (HR.out.2.1.cells p k hpn (by omega)).1
          have l2 : (p : Int) < (n : Int) := by omega
          have l3 : (k : Int) < ((n + 1 : Nat) : Int) := by omega
          obtain ⟨y, hy⟩ : ∃ y, y = h p k := ⟨_, rfl⟩
          rw [← hy] at a2
          have HY := Lib.hid hy
          clear hy
          by_cases hy0 : y = 0
          · have d1 : (y == 0) = true := by simp [hy0]
            have HZ : Hid (h p k = 0) := Lib.hid (by rw [← HY.out]; exact hy0)
            clear hy0
            go_wp2_with fail
            go_round
            case rel => exact ⟨p + 1, by omega, by omega, by go_num, fun r h1 h2 => by
              rcases Nat.lt_succ_iff_lt_or_eq.1 h2 with e | e
              · exact HP.out r h1 e
              · rw [e]; exact HZ.out⟩
            case measure => simp [intOf]; omega
          · have d1 : (y == 0) = false := by simp [hy0]
            have HQ : Hid (piv h n k = p) := Lib.hid (piv_hit hkp hpn HP.out (by rw [← HY.out]; exact hy0))
            clear hy0
            have hne : ¬ (p : Int) = (n : Int) := by omega
            go_upto_if 39 with fail
            go_cut [2, 8, 15] (fun rv _ kv wx => rv = .slice none 0 0 ∧ kv = .int .i64 k ∧ ∃ R' C', Mtx wx g n R' C' (swapM h k p) ∧ (∀ i, i < n → B ≤ R' i) ∧ Below B w wx)
            case first =>
              by_cases hpk : p = k
              · have d2 : ((p : Int) != (k : Int)) = false := by simp [hpk]
                have HE : Hid (swapM h k p = h) := Lib.hid (by unfold swapM; rw [if_pos hpk])
                clear hpk
                go_wp2_with fail
                go_meet
                case rel => exact ⟨rfl, rfl, R, C, by rw [HE.out]; exact HR.out.2.1, HR.out.2.2.1, HR.out.2.2.2.1⟩
              · have d2 : ((p : Int) != (k : Int)) = true := by rw [bne_iff_ne]; omega
                have b1 := (HR.out.2.1.rows k hlt).1
                have b2 := (HR.out.2.1.rows k hlt).2
                have b3 := (HR.out.2.1.rows p hpn).2
                have HSW := Lib.hid (HR.out.2.1.swap hlt hpn hpk)
                have hBS : Below B w ((wr.setCell ⟨g, k, none⟩ (.slice (some ⟨R p, 0, none⟩) (n + 1) (C p))).setCell ⟨g, p, none⟩ (.slice (some ⟨R k, 0, none⟩) (n + 1) (C k))) := (HR.out.2.2.2.1.setCell (p := ⟨g, k, none⟩) hg _).setCell (p := ⟨g, p, none⟩) hg _
                have HBS := Lib.hid hBS
                clear hBS a2 hne
                go_wp2_with fail
                go_region
                go_wp2_with fail
                obtain ⟨w2, hw2⟩ : ∃ w2, w2 = ((wr.setCell ⟨g, k, none⟩ (.slice (some ⟨R p, 0, none⟩) (n + 1) (C p))).setCell ⟨g, p, none⟩ (.slice (some ⟨R k, 0, none⟩) (n + 1) (C k))).drew := ⟨_, rfl⟩
                have hM2 : Mtx w2 g n (fun i => R (swp k p i)) (fun i => C (swp k p i)) (fun i j => h (swp k p i) j) := by rw [hw2]; exact HSW.out.drew
                have hb2 : Below B w w2 := by rw [hw2]; exact HBS.out.drew
                have hbd : ∀ j, j ≤ n → -100000000 ≤ h p j ∧ h p j ≤ 100000000 := fun j hj => HR.out.2.2.2.2.2.2.2 p j hpn hj
                have esk : swp k p k = p := by unfold swp; rw [if_pos rfl]
                have hcap : ∃ Rk Ck, Rk = R (swp k p k) ∧ Ck = C (swp k p k) := ⟨_, _, rfl, rfl⟩
                have H2 := Lib.hid (And.intro hM2 (And.intro hb2 (And.intro hbd esk)))
                have hR2 : ∀ i, i < n → B ≤ R (swp k p i) := fun i hi => HR.out.2.2.1 _ (swp_lt hlt hpn hi)
                have HR2 := Lib.hid hR2
                rw [← hw2]
                clear hw2 hM2 hb2 hbd esk hcap HSW HBS b1 b2 b3 a1 hR2
                go_loopw [59] (fun jv wx => ∃ j : Nat, j ≤ n + 1 ∧ jv = .int .i64 j ∧ Mtx wx g n (fun i => R (swp k p i)) (fun i => C (swp k p i)) (fun a b => if a = k ∧ b < j then -(h (swp k p a) b) else h (swp k p a) b) ∧ Below B w wx) (fun jv _ => n + 1 - (intOf jv).toNat)
                case atStart => exact ⟨0, Nat.zero_le _, rfl, H2.out.1.congr (fun i j _ _ => by rw [if_neg (by omega)]), H2.out.2.1⟩
                case round =>
                  obtain ⟨j, hj, rfl, hM3, hb3⟩ := hrel
                  have H3 := Lib.hid (And.intro hM3 hb3)
                  clear hM3 hb3
                  by_cases hjn : j < n + 1
                  · have c1 := (H3.out.1.rows k hlt).1
                    have c2 := (H3.out.1.cells k j hlt (by omega)).1
                    have c3 := (H3.out.1.cells k j hlt (by omega)).2
                    have hset := H3.out.1.set hlt (show j ≤ n by omega) (-(h p j))
                    have hbd := H2.out.2.2.1 j (by omega)
                    have esk := H2.out.2.2.2
                    simp only [esk] at c1 c2 c3 hset
                    rw [if_neg (by omega)] at c2
                    have HS := Lib.hid (And.intro hset (H3.out.2.setCell (p := ⟨R p, j, none⟩) (HR.out.2.2.1 p hpn) (.int .i64 (-(h p j)))))
                    obtain ⟨z, hz⟩ : ∃ z, z = h p j := ⟨_, rfl⟩
                    rw [← hz] at c2 hbd HS
                    have HZ := Lib.hid hz
                    have l4 : (j : Int) < ((n + 1 : Nat) : Int) := by omega
                    have l5 : ((n + 1 : Nat) : Int) = (n : Int) + 1 := by omega
                    clear hset esk hz
                    have en : IntKind.i64.wrap (-z) = -z := IntWalk.i64_in _ (by omega)
                    go_wp2_with fail
                    go_region
                    go_wp2_with fail
                    go_roundw
                    case rel =>
                      refine ⟨j + 1, by omega, by go_num, (HS.out.1.congr (fun a b ha hb => ?_)).drew, HS.out.2.drew⟩
                      unfold upd
                      dsimp only
                      by_cases e : a = k ∧ b = j
                      · rw [if_pos e, if_pos ⟨e.1, by omega⟩, e.1, e.2, H2.out.2.2.2, HZ.out]
                      · rw [if_neg e]
                        by_cases e2 : a = k ∧ b < j
                        · rw [if_pos e2, if_pos ⟨e2.1, by omega⟩]
                        · rw [if_neg e2, if_neg (fun h => by have := h.2; have := h.1; omega)]
                    case measure => simp [intOf]; omega
                  · obtain rfl : j = n + 1 := by omega
                    go_wp2_with fail
                    go_meet
                    case rel =>
                      refine ⟨rfl, rfl, _, _, H3.out.1.congr (fun a b ha hb => ?_), HR2.out, H3.out.2⟩
                      unfold swapM
                      rw [if_neg hpk]
                      by_cases e : a = k
                      · rw [if_pos ⟨e, by omega⟩, if_pos e, e, H2.out.2.2.2]
                      · rw [if_neg (fun h => e h.1), if_neg e]
                        unfold swp
                        rw [if_neg e]
                        split <;> rfl
            case rest =>
              obtain ⟨rfl, rfl, R', C', hM', hR', hbl'⟩ := hcut
              have hnext : slvTo f n (k + 1) = some (red (swapM h k p) k l, swapM h k p k k) := by
                rw [slvTo, HR.out.1]
                simp only
                rw [HQ.out, if_neg (by omega)]
              have hsf := H.out.2.2 (k + 1) _ _ (by omega) hnext
              obtain ⟨f1, hf1⟩ : ∃ f1, f1 = swapM h k p := ⟨_, rfl⟩
              rw [← hf1] at hM' hnext hsf
              have hfb : ∀ i j, i < n → j ≤ n → -100000000 ≤ f1 i j ∧ f1 i j ≤ 100000000 := by
                intro i j hi hj
                have h1 := HR.out.2.2.2.2.2.2.2 i j hi hj
                have h2 := HR.out.2.2.2.2.2.2.2 p j hpn hj
                have h3 := HR.out.2.2.2.2.2.2.2 k j hlt hj
                rw [hf1]
                unfold swapM
                split
                · exact h1
                · dsimp only
                  split
                  · omega
                  · split
                    · exact h3
                    · exact h1
              obtain ⟨f2, hf2⟩ : ∃ f2, f2 = red f1 k l := ⟨_, rfl⟩
              rw [← hf2] at hnext hsf
              have hk2 : f2 k = f1 k := by rw [hf2]; funext j; unfold red; rw [if_pos rfl]
              have hz2 : ∀ i, i ≠ k → f2 i k = 0 := by intro i hi; rw [hf2]; unfold red; rw [if_neg hi, if_pos rfl]
              have ho2 : ∀ i j, i ≠ k → j ≠ k → f2 i j = (f1 i j * f1 k k - f1 i k * f1 k j).tdiv l := by intro i j hi hj; rw [hf2]; unfold red; rw [if_neg hi, if_neg hj]
              have HF := Lib.hid (And.intro hfb (And.intro hk2 (And.intro hz2 (And.intro ho2 (And.intro hnext hsf)))))
              have HC := Lib.hid (And.intro hM' (And.intro hR' hbl'))
              clear hnext hsf hfb hk2 hz2 ho2 hM' hR' hbl' hf1 hf2 HY HQ HP a1 a2 hne
              go_wp2_with fail
              go_loopw [78] (fun iv wx => ∃ i : Nat, i ≤ n ∧ iv = .int .i64 i ∧ Mtx wx g n R' C' (midM f1 f2 k i (n + 1)) ∧ Below B w wx) (fun iv _ => n - (intOf iv).toNat)
              case atStart => exact ⟨0, Nat.zero_le _, rfl, HC.out.1.congr (fun i j hi hj => by unfold midM; rw [if_neg (by omega)]), HC.out.2.2⟩
              case round =>
                obtain ⟨i, hi, rfl, hM4, hb4⟩ := hrel
                have H4 := Lib.hid (And.intro hM4 hb4)
                clear hM4 hb4
                by_cases hin : i < n
                · have l4 : (i : Int) < (n : Int) := by omega
                  by_cases hik : i = k
                  · have d3 : ((i : Int) == (k : Int)) = true := by simp [hik]
                    have HK := Lib.hid hik
                    clear hik
                    go_wp2_with fail
                    go_roundw
                    case rel =>
                      refine ⟨i + 1, by omega, by go_num, H4.out.1.congr (fun a b ha hb => ?_), H4.out.2⟩
                      unfold midM
                      by_cases e : a = i
                      · rw [if_neg (by have := HK.out; omega), if_neg (by have := HK.out; omega)]
                      · by_cases e2 : a < i ∧ a ≠ k
                        · rw [if_pos (.inl e2), if_pos (.inl ⟨by omega, e2.2⟩)]
                        · rw [if_neg (by omega), if_neg (by omega)]
                    case measure => simp [intOf]; omega
                  · have d3 : ((i : Int) == (k : Int)) = false := by rw [beq_eq_false_iff_ne]; omega
                    go_wp2_with fail
                    go_loopw [10] (fun jv wx => ∃ q : Nat, q ≤ n + 1 ∧ jv = .int .i64 ((q : Int) - 1) ∧ Mtx wx g n R' C' (midM f1 f2 k i q) ∧ Below B w wx) (fun jv _ => (intOf jv + 1).toNat)
                    case atStart => exact ⟨n + 1, Nat.le_refl _, by rw [show ((n + 1 : Nat) : Int) - 1 = (n : Int) from by omega], H4.out.1, H4.out.2⟩
                    case round =>
                      obtain ⟨q, hq, rfl, hM5, hb5⟩ := hrel
                      have H5 := Lib.hid (And.intro hM5 hb5)
                      clear hM5 hb5
                      by_cases hq0 : q = 0
                      · subst hq0
                        have c1 := (H5.out.1.rows i hin).1
                        have c3 := (H5.out.1.cells i k hin (by omega)).2
                        have c4 := (H5.out.1.cells i k hin (by omega)).1
                        have HS := Lib.hid (And.intro (H5.out.1.set hin (show k ≤ n by omega) 0) (H5.out.2.setCell (p := ⟨R' i, k, none⟩) (HC.out.2.1 i hin) (.int .i64 0)))
                        go_wp2_with fail
                        go_roundw
                        case rel =>
                          refine ⟨i + 1, by omega, by go_num, HS.out.1.congr (fun a b ha hb => ?_), HS.out.2⟩
                          unfold upd midM
                          by_cases e : a = i ∧ b = k
                          · rw [if_pos e, if_pos (.inl ⟨by omega, by omega⟩), e.1, e.2, HF.out.2.2.1 i hik]
                          · rw [if_neg e]
                            by_cases e2 : (a < i ∧ a ≠ k) ∨ (a = i ∧ 0 ≤ b ∧ b ≠ k)
                            · rw [if_pos e2, if_pos (.inl (by omega))]
                            · rw [if_neg e2, if_neg (by omega)]
                        case measure => simp [intOf]; omega
                      · obtain ⟨j, rfl⟩ : ∃ j, q = j + 1 := ⟨q - 1, by omega⟩
                        have ej : ((j + 1 : Nat) : Int) - 1 = (j : Int) := by omega
                        rw [ej]
                        clear ej
                        have l5 : (0 : Int) ≤ (j : Int) := by omega
                        by_cases hjk : j = k
                        · have d4 : ((j : Int) != (k : Int)) = false := by simp [hjk]
                          have HK := Lib.hid hjk
                          clear hjk
                          go_wp2_with fail
                          go_roundw
                          case rel =>
                            refine ⟨j, by omega, rfl, H5.out.1.congr (fun a b ha hb => ?_), H5.out.2⟩
                            have := HK.out
                            unfold midM
                            by_cases e2 : (a < i ∧ a ≠ k) ∨ (a = i ∧ j + 1 ≤ b ∧ b ≠ k)
                            · rw [if_pos e2, if_pos (by omega)]
                            · rw [if_neg e2, if_neg (by omega)]
                          case measure => simp [intOf]
                        · have d4 : ((j : Int) != (k : Int)) = true := by rw [bne_iff_ne]; omega
                          have r1 := (H5.out.1.rows i hin).1
                          have r2 := (H5.out.1.rows k hlt).1
                          have q1 := (H5.out.1.cells i j hin (by omega)).1
                          have q2 := (H5.out.1.cells k k hlt (by omega)).1
                          have q3 := (H5.out.1.cells i k hin (by omega)).1
                          have q4 := (H5.out.1.cells k j hlt (by omega)).1
                          have q5 := (H5.out.1.cells i j hin (by omega)).2
                          have m1 : midM f1 f2 k i (j + 1) i j = f1 i j := by unfold midM; rw [if_neg (by omega)]
                          have m2 : midM f1 f2 k i (j + 1) k k = f1 k k := by unfold midM; rw [if_neg (by omega)]
                          have m3 : midM f1 f2 k i (j + 1) i k = f1 i k := by unfold midM; rw [if_neg (by omega)]
                          have m4 : midM f1 f2 k i (j + 1) k j = f1 k j := by unfold midM; rw [if_neg (by omega)]
                          rw [m1] at q1
                          rw [m2] at q2
                          rw [m3] at q3
                          rw [m4] at q4
                          have hv := HF.out.2.2.2.1 i j hik hjk
                          have hvb := HF.out.2.2.2.2.2.2.2.2 i j hin (by omega)
                          have hfa := HF.out.1 i j hin (by omega)
                          have hfb := HF.out.1 k k hlt (by omega)
                          have hfc := HF.out.1 i k hin (by omega)
                          have hfd := HF.out.1 k j hlt (by omega)
                          have HS := Lib.hid (And.intro (H5.out.1.set hin (show j ≤ n by omega) (f2 i j)) (H5.out.2.setCell (p := ⟨R' i, j, none⟩) (HC.out.2.1 i hin) (.int .i64 (f2 i j))))
                          have hpr : ∀ x y : Int, -100000000 ≤ x ∧ x ≤ 100000000 → -100000000 ≤ y ∧ y ≤ 100000000 → -10000000000000000 ≤ x * y ∧ x * y ≤ 10000000000000000 := by
                            intro x y hx hy
                            have h1 := Int.natAbs_mul x y
                            have h2 : x.natAbs * y.natAbs ≤ 100000000 * 100000000 := Nat.mul_le_mul (by omega) (by omega)
                            omega
                          have hab := hpr _ _ hfa hfb
                          have hcd := hpr _ _ hfc hfd
                          obtain ⟨v, hve⟩ : ∃ v, v = f2 i j := ⟨_, rfl⟩
                          have HW := Lib.hid hve
                          rw [← hve] at hv hvb HS
                          clear hve m1 m2 m3 m4 hpr
                          generalize f1 i j = xa at *
                          generalize f1 k k = xb at *
                          generalize f1 i k = xc at *
                          generalize f1 k j = xd at *
                          obtain ⟨ab, habe⟩ : ∃ ab, ab = xa * xb := ⟨_, rfl⟩
                          obtain ⟨cd, hcde⟩ : ∃ cd, cd = xc * xd := ⟨_, rfl⟩
                          obtain ⟨df, hdf⟩ : ∃ df, df = ab - cd := ⟨_, rfl⟩
                          rw [← habe, ← hcde, ← hdf] at hv
                          rw [← habe] at hab
                          rw [← hcde] at hcd
                          have e1 : IntKind.i64.wrap (xa * xb) = ab := by rw [← habe]; exact IntWalk.i64_in _ (by omega)
                          have e2 : IntKind.i64.wrap (xc * xd) = cd := by rw [← hcde]; exact IntWalk.i64_in _ (by omega)
                          have e3 : IntKind.i64.wrap (ab - cd) = df := by rw [← hdf]; exact IntWalk.i64_in _ (by omega)
                          have e4 : IntKind.i64.wrap (df.tdiv l) = v := by rw [← hv]; exact IntWalk.i64_in _ (by omega)
                          have e5 : (l == 0) = false := by rw [beq_eq_false_iff_ne]; exact hl0
                          clear habe hcde hdf
                          have l6 : (j : Int) < ((n + 1 : Nat) : Int) := by omega
                          clear hv hab hcd
                          go_wp2_with fail
                          refine wp_region_drew_tail 39 (by kernel_rfl) (by kernel_rfl) ?_
                          simp only [List.take_succ_cons, List.take_zero, List.drop_succ_cons, List.drop_zero]
                          repeat (go_big_quiet_step (fail))
                          refine wpQuiet_nil ?_
                          rintro _ ⟨nq, rfl⟩
                          go_wp2_with fail
                          go_roundw
                          case rel =>
                            refine ⟨j, by omega, by go_num, (HS.out.1.congr (fun a b ha hb => ?_)).drewN nq, below_drewN HS.out.2 nq⟩
                            unfold upd
                            by_cases e : a = i ∧ b = j
                            · rw [if_pos e]
                              unfold midM
                              rw [if_pos (by omega), e.1, e.2, HW.out]
                            · rw [if_neg e]
                              unfold midM
                              by_cases e2 : (a < i ∧ a ≠ k) ∨ (a = i ∧ j + 1 ≤ b ∧ b ≠ k)
                              · rw [if_pos e2, if_pos (by omega)]
                              · rw [if_neg e2, if_neg (by omega)]
                          case measure => simp [intOf]
                · obtain rfl : i = n := by omega
                  have HN := Lib.hid (And.intro (H4.out.1.congr (f' := f2) (fun a b ha hb => by
                    unfold midM
                    by_cases e : a = k
                    · rw [if_neg (by omega), e, HF.out.2.1]
                    · rw [if_pos (.inl ⟨ha, e⟩)])) H4.out.2)
                  have r1 := (HN.out.1.rows k hlt).1
                  have q1 := (HN.out.1.cells k k hlt (by omega)).1
                  rw [HF.out.2.1] at q1
                  obtain ⟨l', hl'⟩ : ∃ l', l' = f1 k k := ⟨_, rfl⟩
                  rw [← hl'] at q1
                  have HL := Lib.hid hl'
                  clear hl'
                  have l4 : (k : Int) < ((i + 1 : Nat) : Int) := by omega
                  go_wp2_with fail
                  go_roundg (i + 1 - (k + 1))
                  case measure => omega
                  case rel => exact ⟨k + 1, R', C', f2, l', by omega, rfl, rfl, by go_num, rfl, by rw [HL.out]; exact HF.out.2.2.2.2.1, HN.out.1, HC.out.2.1, HN.out.2⟩
        · obtain rfl : p = n := by omega
          have HF : Hid (slvTo f p p = none) := Lib.hid (by
            have h1 : slvTo f p (k + 1) = none := by rw [slvTo, HR.out.1]; simp only; rw [if_pos (piv_miss (by omega) HP.out)]
            have h2 := slvTo_none h1 (p - (k + 1))
            rwa [show k + 1 + (p - (k + 1)) = p from by omega] at h2)
          go_wp2_with fail
          go_ret2
          exact .inl ⟨HF.out, rfl, HR.out.2.2.2.1⟩
    · obtain rfl : n = k := by omega
      clear hgh
      obtain ⟨wq, rfl⟩ : ∃ wq : World, wq = wr := ⟨_, rfl⟩
      have hwq := HR.out.2.2.2.1.size
      go_wp2_with fail
      go_loopw [2, 148] (fun ov iv wx => ∃ (i : Nat) (D : Option Addr) (c : Nat), i ≤ n ∧ iv = .int .i64 i ∧ ov = .slice D i c ∧ wx.ownsRow wq.heap.size 3 1 (.slice D i c) i ((List.range i).map fun i => .int .i64 (h i n)) ∧ Below wq.heap.size wq wx) (fun _ iv _ => n - (intOf iv).toNat)
      case atStart => exact ⟨0, none, 0, Nat.zero_le _, rfl, rfl, World.ownsRow_nil _ _ _ _, Below.refl _ _⟩
      case round =>
        obtain ⟨i, D, c, hi, rfl, rfl, hown, hb⟩ := hrel
        obtain ⟨wo, rfl⟩ : ∃ wo : World, wo = wr := ⟨_, rfl⟩
        have HO := Lib.hid (And.intro hown hb)
        have hwo := hb.size
        clear hown hb
        by_cases hin : i < n
        · have r1 := (HO.out.2.cell (lt_of_cell (HR.out.2.1.rows i hin).1)).trans (HR.out.2.1.rows i hin).1
          have q1 := (HO.out.2.cell (lt_of_cell (HR.out.2.1.cells i n hin (Nat.le_refl _)).1)).trans (HR.out.2.1.cells i n hin (Nat.le_refl _)).1
          have hnew : ((List.range (i + 1)).map fun i => Value.int .i64 (h i n)) = ((List.range i).map fun i => Value.int .i64 (h i n)) ++ [.int .i64 (h i n)] := by rw [List.range_succ, List.map_append]; rfl
          have HN := Lib.hid hnew
          have l1 : (i : Int) < (n : Int) := by omega
          have l2 : (n : Int) < ((n + 1 : Nat) : Int) := by omega
          clear hnew
          go_wp2_with (at_builtin; refine app1 sty_int rfl _ _ rfl wq.heap.size D i c _ #[.int .i64 (h i n)] rfl (by simp [Value.oneCell']) rfl HO.out.1 rfl (by omega) hwo ?_)
          intro A4 k4 w4 hown4 _ hbl4 hk41 hk42
          have H4 : Hid (w4.ownsRow wq.heap.size 3 1 (.slice A4 (i + 1) k4) (i + 1) ((List.range (i + 1)).map fun i => Value.int .i64 (h i n)) ∧ Below wq.heap.size wq w4) := Lib.hid ⟨by rw [HN.out]; exact hown4, HO.out.2.trans hbl4⟩
          clear hown4 hbl4
          go_wp2_with fail
          go_roundw
          case rel => exact ⟨i + 1, A4, k4, by omega, by go_num, rfl, H4.out.1, H4.out.2⟩
          case measure => simp [intOf]; omega
        · obtain rfl : n = i := by omega
          go_wp2_with fail
          go_ret2
          exact .inr ⟨h, l, D, c, HR.out.1, rfl, own_mono HO.out.1 (by omega), HR.out.2.2.2.1.trans (HO.out.2.mono (by omega))⟩

/- What players pay in an order: plain Lean. -/

/-- What one more player pays, and the set with that player. -/
def joinStep (c : List Int) (p : Nat × List Int) (i : Nat) : Nat × List Int := (p.1 ||| 2 ^ i, p.2.set i (c.getD (p.1 ||| 2 ^ i) 0 - c.getD p.1 0))
/-- What the players pay in an order. -/
def joinL (c : List Int) (os : List Nat) : List Int := (os.foldl (joinStep c) (0, List.replicate os.length 0)).2
def joinP (c : List Int) (n : Nat) (os : List Nat) : Nat × List Int := os.foldl (joinStep c) (0, List.replicate n 0)
theorem joinP_succ (c : List Int) (n : Nat) (os : List Nat) (k x : Nat) (h : os[k]? = some x) : joinP c n (os.take (k + 1)) = joinStep c (joinP c n (os.take k)) x := by
  unfold joinP
  rw [List.take_add_one, h]
  simp [List.foldl_append]
theorem joinP_bd (c : List Int) (n : Nat) (os : List Nat) (h : ∀ x ∈ os, x < n) : (joinP c n os).1 < 2 ^ n ∧ (joinP c n os).2.length = n := by
  unfold joinP
  suffices ∀ p : Nat × List Int, p.1 < 2 ^ n → p.2.length = n → (os.foldl (joinStep c) p).1 < 2 ^ n ∧ (os.foldl (joinStep c) p).2.length = n from this _ (by simp; exact Nat.pos_of_neZero _) (by simp)
  induction os with
  | nil => intro p h1 h2; exact ⟨h1, h2⟩
  | cons x os ih =>
    intro p h1 h2
    exact ih (fun y hy => h y (List.mem_cons_of_mem _ hy)) _ (or_pow_lt h1 (h x (List.mem_cons_self ..))) (by simp [joinStep, h2])


/- Contract: join of package games. -/

set_option maxHeartbeats 800000 in
theorem join_any (ad ac : Addr) (N cap n cap' : Nat) (c : List Int) (os : List Nat) (w : World) (hn : n ≤ 4) (hN : N = 2 ^ n) (hl : c.length = N) (hol : os.length = n)
    (hc : ∀ i x, c[i]? = some x → w.cell? (ac.add i) = some (.int .i64 x)) (ho : ∀ i x, os[i]? = some x → w.cell? (ad.add i) = some (.int .i64 (x : Nat)))
    (hos : ∀ x ∈ os, x < n) (hcb : ∀ x ∈ c, 0 ≤ x ∧ x ≤ 1000) :
    Calls Tryd.prog 27 #[.slice (some ac) N cap, .slice (some ad) n cap'] w fun e w' => e = .returned (.slice (some ⟨w.heap.size, 0, none⟩) n n) ∧ Blk w' w.heap.size 3 (arr (joinL c os)) ∧ Below w.heap.size w w' := by
  have hmk := make_ints n (by omega)
  have HN := Lib.hid hN
  have HL := Lib.hid hl
  have HOL := Lib.hid hol
  have HC := Lib.hid hc
  have HO := Lib.hid ho
  have HOS := Lib.hid hos
  have HCB := Lib.hid hcb
  clear hN hl hol hc ho hos hcb
  go_enter Tryd.func27, Tryd.ntmps27
  go_wp2
  go_loopw [6, 14] (fun s i wr => ∃ k set : Nat, k ≤ n ∧ i = .int .i64 k ∧ s = .int .i64 set ∧ set = (joinP c n (os.take k)).1 ∧ Blk wr w.heap.size 3 (arr (joinP c n (os.take k)).2) ∧ Below w.heap.size w wr) (fun _ i _ => n - (intOf i).toNat)
  case atStart => exact ⟨0, 0, Nat.zero_le _, rfl, rfl, rfl, Blk.new _ _ _ rfl, (Below.refl _ _).alloc (Nat.le_refl _) _⟩
  case round =>
    obtain ⟨k, set, h1, rfl, rfl, hset, hB, hb⟩ := hrel
    have HSET := Lib.hid hset
    have HB := Lib.hid hB
    have HBL := Lib.hid hb
    clear hset hB hb
    by_cases hlt : k < n
    · obtain ⟨x, hx⟩ : ∃ x, os[k]? = some x := ⟨_, List.getElem?_eq_getElem (by rw [HOL.out]; exact hlt)⟩
      have hxn : x < n := HOS.out x (List.mem_of_getElem? hx)
      have bd := joinP_bd c n (os.take k) (fun y hy => HOS.out y (List.mem_of_mem_take hy))
      rw [← HSET.out] at bd
      have hlt2 : set ||| 2 ^ x < 2 ^ n := or_pow_lt bd.1 hxn
      have hp : 2 ^ n ≤ 16 := by have := Nat.pow_le_pow_right (show 0 < 2 by omega) hn; simpa using this
      obtain ⟨s', hs'⟩ : ∃ s' : Nat, s' = set ||| 2 ^ x := ⟨_, rfl⟩
      have e1 := or_pow set x (by omega) (by omega)
      have e2 := or_pow' set x (by omega) (by omega)
      rw [← hs'] at e1 e2 hlt2
      obtain ⟨y1, hy1⟩ : ∃ y, c[s']? = some y := ⟨_, List.getElem?_eq_getElem (by rw [HL.out, HN.out]; exact hlt2)⟩
      obtain ⟨y0, hy0⟩ : ∃ y, c[set]? = some y := ⟨_, List.getElem?_eq_getElem (by rw [HL.out, HN.out]; exact bd.1)⟩
      have b1 := HCB.out y1 (List.mem_of_getElem? hy1)
      have b0 := HCB.out y0 (List.mem_of_getElem? hy0)
      have c1 := (HBL.out.cell (lt_of_cell (HC.out _ _ hy1))).trans (HC.out _ _ hy1)
      have c0 := (HBL.out.cell (lt_of_cell (HC.out _ _ hy0))).trans (HC.out _ _ hy0)
      have c2 := (HBL.out.cell (lt_of_cell (HO.out _ _ hx))).trans (HO.out _ _ hx)
      have hlN : s' < N := by rw [HN.out]; exact hlt2
      have hl0 : set < N := by rw [HN.out]; exact bd.1
      obtain ⟨z, hz⟩ : ∃ z, (joinP c n (os.take k)).2[x]? = some z := ⟨_, List.getElem?_eq_getElem (by rw [bd.2]; exact hxn)⟩
      have c3 : wr.cell? ⟨w.heap.size, x, none⟩ = some (.int .i64 z) := by rw [HB.out.cell, arr_get, hz]; rfl
      have f3 : wr.frozen? ⟨w.heap.size, x, none⟩ = false := HB.out.frozen x
      have HNEW : Hid (joinP c n (os.take (k + 1)) = (s', (joinP c n (os.take k)).2.set x (y1 - y0))) := Lib.hid (by
        rw [joinP_succ c n os k x hx, joinStep, ← HSET.out, ← hs', List.getD_eq_getElem?_getD, List.getD_eq_getElem?_getD, hy1, hy0]; rfl)
      clear hx hs' hy1 hy0 hz bd hlt2 hp
      go_wp2
      go_region
      go_wp2
      go_roundw
      case rel =>
        refine ⟨k + 1, s', by omega, by go_num, rfl, by rw [HNEW.out], ?_, HBL.out.drew.setCell (Nat.le_refl _) _⟩
        rw [HNEW.out, ← arr_set]
        exact Blk.set_ (w := wr.drew) HB.out x _
      case measure => simp [intOf]; omega
    · go_wp2
      go_ret
      refine ⟨rfl, ?_, HBL.out⟩
      have h := HB.out
      rwa [List.take_of_length_le (by rw [HOL.out]; omega), show joinP c n os = os.foldl (joinStep c) (0, List.replicate os.length 0) from by rw [joinP, HOL.out]] at h

/- The orders of players and the sums over them: plain Lean. -/

/-- sums with the first k numbers of js added. -/
def addUp (sums js : List Int) : Nat → List Int
  | 0 => sums
  | k + 1 => (addUp sums js k).set k ((addUp sums js k).getD k 0 + js.getD k 0)
theorem addUp_length (sums js : List Int) (k : Nat) : (addUp sums js k).length = sums.length := by
  induction k with
  | zero => rfl
  | succ k ih => simp [addUp, ih]
theorem addUp_get (sums js : List Int) (k i : Nat) (hi : i < sums.length) : (addUp sums js k).getD i 0 = if i < k then sums.getD i 0 + js.getD i 0 else sums.getD i 0 := by
  induction k with
  | zero => simp [addUp]
  | succ k ih =>
    have hl := addUp_length sums js k
    simp only [addUp, List.getD_eq_getElem?_getD, List.getElem?_set] at ih ⊢
    by_cases h : k = i
    · subst h
      rw [if_pos rfl, if_pos (by omega), if_pos (by omega)]
      simp only [Option.getD_some]
      rw [ih, if_neg (by omega)]
    · rw [if_neg h, ih]
      split <;> split <;> first | rfl | omega

/-- All orders of n players that begin with pre, m being left to come. -/
def ext (n : Nat) : Nat → List Nat → List (List Nat)
  | 0, pre => [pre]
  | m + 1, pre => (List.range n).flatMap fun i => if i ∈ pre then [] else ext n m (pre ++ [i])
/-- The part of them whose next player is below i. -/
def extTo (n m : Nat) (pre : List Nat) (i : Nat) : List (List Nat) := (List.range i).flatMap fun i => if i ∈ pre then [] else ext n m (pre ++ [i])
theorem ext_eq (n m : Nat) (pre : List Nat) : ext n (m + 1) pre = extTo n m pre n := rfl
theorem extTo_succ (n m : Nat) (pre : List Nat) (i : Nat) : extTo n m pre (i + 1) = extTo n m pre i ++ (if i ∈ pre then [] else ext n m (pre ++ [i])) := by
  simp [extTo, List.range_succ]
theorem extTo_le (n m : Nat) (pre : List Nat) (i j : Nat) (h : i ≤ j) : (extTo n m pre i).length ≤ (extTo n m pre j).length := by
  induction j with
  | zero => obtain rfl : i = 0 := by omega
            exact Nat.le_refl _
  | succ j ih =>
    rcases Nat.lt_or_ge j i with h1 | h1
    · obtain rfl : i = j + 1 := by omega
      exact Nat.le_refl _
    · rw [extTo_succ, List.length_append]; have := ih h1; omega

/-- The sums after all orders of a list have been added. -/
def addAll (c : List Int) (n : Nat) (sums : List Int) (L : List (List Nat)) : List Int := L.foldl (fun s os => addUp s (joinL c os) n) sums
theorem addAll_append (c : List Int) (n : Nat) (sums : List Int) (L M : List (List Nat)) : addAll c n sums (L ++ M) = addAll c n (addAll c n sums L) M := by
  simp [addAll, List.foldl_append]
theorem addAll_length (c : List Int) (n : Nat) (sums : List Int) (L : List (List Nat)) : (addAll c n sums L).length = sums.length := by
  induction L generalizing sums with
  | nil => rfl
  | cons os L ih => simp only [addAll, List.foldl_cons] at ih ⊢; rw [ih, addUp_length]

theorem costs_get {c : List Int} (hcb : ∀ x ∈ c, 0 ≤ x ∧ x ≤ 1000) (i : Nat) : 0 ≤ c.getD i 0 ∧ c.getD i 0 ≤ 1000 := by
  rw [List.getD_eq_getElem?_getD]
  cases h : c[i]? with
  | none => simp
  | some x => exact hcb x (List.mem_of_getElem? h)
theorem joinL_bd {c : List Int} (hcb : ∀ x ∈ c, 0 ≤ x ∧ x ≤ 1000) (os : List Nat) : ∀ y ∈ joinL c os, -1000 ≤ y ∧ y ≤ 1000 := by
  unfold joinL
  suffices ∀ p : Nat × List Int, (∀ y ∈ p.2, -1000 ≤ y ∧ y ≤ 1000) → ∀ y ∈ (os.foldl (joinStep c) p).2, -1000 ≤ y ∧ y ≤ 1000 from
    this _ (by intro y hy; rw [List.mem_replicate] at hy; omega)
  induction os with
  | nil => intro p h; exact h
  | cons x os ih =>
    intro p h
    refine ih _ fun y hy => ?_
    rcases List.mem_or_eq_of_mem_set hy with hy | rfl
    · exact h y hy
    · have h1 := costs_get hcb (p.1 ||| 2 ^ x); have h2 := costs_get hcb p.1; omega
theorem getD_bd {l : List Int} {m : Int} (h : ∀ y ∈ l, -m ≤ y ∧ y ≤ m) (hm : 0 ≤ m) (i : Nat) : -m ≤ l.getD i 0 ∧ l.getD i 0 ≤ m := by
  rw [List.getD_eq_getElem?_getD]
  cases hh : l[i]? with
  | none => simp; omega
  | some x => exact h x (List.mem_of_getElem? hh)
theorem addUp_bd {sums js : List Int} {m : Int} (hs : ∀ y ∈ sums, -m ≤ y ∧ y ≤ m) (hj : ∀ y ∈ js, -1000 ≤ y ∧ y ≤ 1000) (hm : 0 ≤ m) (k : Nat) : ∀ y ∈ addUp sums js k, -(m + 1000) ≤ y ∧ y ≤ m + 1000 := by
  intro y hy
  obtain ⟨i, hi, rfl⟩ := List.getElem_of_mem hy
  rw [addUp_length] at hi
  have h := addUp_get sums js k i hi
  rw [List.getD_eq_getElem?_getD, List.getElem?_eq_getElem (by rw [addUp_length]; exact hi)] at h
  simp only [Option.getD_some] at h
  rw [h]
  have h1 := getD_bd hs hm i
  have h2 := getD_bd hj (by omega) i
  split <;> omega

/- Contract: the function that games.Shapley calls for each order. -/

set_option maxHeartbeats 800000 in
theorem shapley1_any (ad ac : Addr) (N cap n cap' Bc Bk Bs S : Nat) (c : List Int) (os : List Nat) (cnt : Int) (sums : List Int) (w : World)
    (hn : n ≤ 4) (hN : N = 2 ^ n) (hl : c.length = N) (hol : os.length = n) (hsl : sums.length = n)
    (hc : ∀ i x, c[i]? = some x → w.cell? (ac.add i) = some (.int .i64 x)) (ho : ∀ i x, os[i]? = some x → w.cell? (ad.add i) = some (.int .i64 (x : Nat)))
    (hos : ∀ x ∈ os, x < n) (hcb : ∀ x ∈ c, 0 ≤ x ∧ x ≤ 1000) (hcnt : 0 ≤ cnt ∧ cnt ≤ 1000) (hsb : ∀ y ∈ sums, -(1000 * cnt) ≤ y ∧ y ≤ 1000 * cnt)
    (bc : Blk w Bc 3 #[.int .i64 cnt]) (bk : Blk w Bk 64 #[.slice (some ac) N cap]) (bs : Blk w Bs 22 #[.slice (some ⟨S, 0, none⟩) n n]) (bS : Blk w S 3 (arr sums))
    (n1 : ac.block ≠ Bc) (n2 : ad.block ≠ Bc) (n3 : Bk ≠ Bc) (n4 : Bs ≠ Bc) (n5 : S ≠ Bc) (n6 : Bs ≠ S) :
    Calls Tryd.prog 26 #[.slice (some ad) n cap', .pointer (some ⟨Bc, 0, none⟩), .pointer (some ⟨Bk, 0, none⟩), .pointer (some ⟨Bs, 0, none⟩)] w fun e w' =>
      e = .returned (.tuple #[]) ∧ Blk w' Bc 3 #[.int .i64 (cnt + 1)] ∧ Blk w' S 3 (arr (addUp sums (joinL c os) n)) ∧ Kept w.heap.size [Bc, S] w w' := by
  obtain ⟨k0, k1⟩ := bk.at1
  obtain ⟨q0, q1⟩ := bc.at1
  have hbc := bc.lt
  have W1 : Kept w.heap.size [Bc, S] w (w.setCell ⟨Bc, 0, none⟩ (.int .i64 (cnt + 1))) := (Kept.refl _ _ _).setCell (.inl (by simp)) _
  have bk1 : Blk (w.setCell ⟨Bc, 0, none⟩ (.int .i64 (cnt + 1))) Bk 64 #[.slice (some ac) N cap] := bk.far n3 _
  have bs1 : Blk (w.setCell ⟨Bc, 0, none⟩ (.int .i64 (cnt + 1))) Bs 22 #[.slice (some ⟨S, 0, none⟩) n n] := bs.far n4 _
  have bS1 : Blk (w.setCell ⟨Bc, 0, none⟩ (.int .i64 (cnt + 1))) S 3 (arr sums) := bS.far n5 _
  have bc1 : Blk (w.setCell ⟨Bc, 0, none⟩ (.int .i64 (cnt + 1))) Bc 3 #[.int .i64 (cnt + 1)] := bc.set_ 0 _
  have cell1 : ∀ (p : Addr) (v : Value), p.block ≠ Bc → w.cell? p = some v → (w.setCell ⟨Bc, 0, none⟩ (.int .i64 (cnt + 1))).cell? p = some v := fun p v hp hv => (World.cell?_of_block (w := w) (Below.heap_setCell w ⟨Bc, 0, none⟩ _ p.block hp)).trans hv
  have hc1 : ∀ i x, c[i]? = some x → (w.setCell ⟨Bc, 0, none⟩ (.int .i64 (cnt + 1))).cell? (ac.add i) = some (.int .i64 x) := fun i x hx => cell1 _ _ (by rw [add_block]; exact n1) (hc i x hx)
  have ho1 : ∀ i x, os[i]? = some x → (w.setCell ⟨Bc, 0, none⟩ (.int .i64 (cnt + 1))).cell? (ad.add i) = some (.int .i64 (x : Nat)) := fun i x hx => cell1 _ _ (by rw [add_block]; exact n2) (ho i x hx)
  have hjb := joinL_bd hcb os
  have hz : (w.setCell ⟨Bc, 0, none⟩ (.int .i64 (cnt + 1))).heap.size = w.heap.size := by simp [World.setCell]
  obtain ⟨k2, k3⟩ := bk1.at1
  have HC := Lib.hid hc1
  have HO := Lib.hid ho1
  have HJB := Lib.hid hjb
  have HSB := Lib.hid hsb
  have HZ := Lib.hid hz
  have HSL := Lib.hid hsl
  have HB := Lib.hid (And.intro bk1 (And.intro bs1 (And.intro bS1 (And.intro bc1 W1))))
  have HX := Lib.hid (And.intro hN (And.intro hl (And.intro hol (And.intro hos hcb))))
  clear hc ho hc1 ho1 hjb hsb hz bk bs bS bc bk1 bs1 bS1 bc1 W1 cell1 k0 k1 hN hl hol hos hcb hsl
  go_enter Tryd.func26, Tryd.ntmps26
  go_wp2_with fail
  refine (join_any ad ac N cap n cap' c os _ hn HX.out.1 HX.out.2.1 HX.out.2.2.1 HC.out HO.out HX.out.2.2.2.1 HX.out.2.2.2.2).mono ?_
  rintro e w2 ⟨rfl, hJ, hb⟩
  rw [HZ.out] at hb hJ ⊢
  obtain ⟨bk1, bs1, bS1, bc1, W1⟩ := HB.out
  have W2 : Kept w.heap.size [Bc, S] w w2 := W1.trans (Kept.of_below hb _)
  have bs2 := bs1.below hb (by have := bs1.lt; rw [HZ.out] at this; exact this)
  have bS2 := bS1.below hb (by have := bS1.lt; rw [HZ.out] at this; exact this)
  have bc2 := bc1.below hb hbc
  have hS : S < w.heap.size := by have := bS1.lt; rw [HZ.out] at this; exact this
  have hBs : Bs < w.heap.size := by have := bs1.lt; rw [HZ.out] at this; exact this
  have H2 := Lib.hid (And.intro hJ (And.intro W2 (And.intro bs2 (And.intro bS2 bc2))))
  clear hJ hb W2 bs2 bS2 bc2 bk1 bs1 bS1 bc1 W1
  go_wp2
  go_loopw [13] (fun i wr => ∃ k : Nat, k ≤ n ∧ i = .int .i64 k ∧ Blk wr S 3 (arr (addUp sums (joinL c os) k)) ∧ Blk wr Bc 3 #[.int .i64 (cnt + 1)] ∧ Blk wr Bs 22 #[.slice (some ⟨S, 0, none⟩) n n] ∧ Blk wr w.heap.size 3 (arr (joinL c os)) ∧ Kept w.heap.size [Bc, S] w wr) (fun i _ => n - (intOf i).toNat)
  case atStart => exact ⟨0, Nat.zero_le _, rfl, H2.out.2.2.2.1, H2.out.2.2.2.2, H2.out.2.2.1, H2.out.1, H2.out.2.1⟩
  case round =>
    obtain ⟨k, h1, rfl, bS, bc, bs, bJ, hK⟩ := hrel
    by_cases hlt : k < n
    · have hjl : k < (joinL c os).length := by
        have := (joinP_bd c n os HX.out.2.2.2.1).2
        unfold joinP at this; rw [show joinL c os = (os.foldl (joinStep c) (0, List.replicate n 0)).2 from by rw [joinL, HX.out.2.2.1]]; omega
      have hul : k < (addUp sums (joinL c os) k).length := by rw [addUp_length, HSL.out]; exact hlt
      obtain ⟨x, hx⟩ : ∃ x, (joinL c os)[k]? = some x := ⟨_, List.getElem?_eq_getElem hjl⟩
      obtain ⟨z, hz⟩ : ∃ x, (addUp sums (joinL c os) k)[k]? = some x := ⟨_, List.getElem?_eq_getElem hul⟩
      have hxb := HJB.out x (List.mem_of_getElem? hx)
      have hzb := addUp_bd HSB.out HJB.out (by omega) k z (List.mem_of_getElem? hz)
      have c1 : wr.cell? ⟨w.heap.size, k, none⟩ = some (.int .i64 x) := by rw [bJ.cell, arr_get, hx]; rfl
      have c2 : wr.cell? ⟨S, k, none⟩ = some (.int .i64 z) := by rw [bS.cell, arr_get, hz]; rfl
      have f2 : wr.frozen? ⟨S, k, none⟩ = false := bS.frozen k
      obtain ⟨s1, s2⟩ := bs.at1
      have HNEW : Hid (addUp sums (joinL c os) (k + 1) = (addUp sums (joinL c os) k).set k (z + x)) := Lib.hid (by
        rw [addUp, List.getD_eq_getElem?_getD, List.getD_eq_getElem?_getD, hz, hx]; rfl)
      have H3 := Lib.hid (And.intro bS (And.intro bc (And.intro bs (And.intro bJ hK))))
      clear bS bc bs bJ hK hx hz hjl hul
      go_wp2
      go_roundw
      case rel =>
        obtain ⟨bS, bc, bs, bJ, hK⟩ := H3.out
        refine ⟨k + 1, by omega, by go_num, ?_, bc.far (by exact fun e => n5 e.symm) _, bs.far n6 _, bJ.far (by show w.heap.size ≠ S; omega) _, hK.setCell (.inl (by simp)) _⟩
        rw [HNEW.out, ← arr_set]
        exact bS.set_ k _
      case measure => simp [intOf]; omega
    · obtain rfl : k = n := by omega
      have H3 := Lib.hid (And.intro bS (And.intro bc hK))
      clear bS bc bs bJ hK
      go_wp2
      go_end0
      exact ⟨rfl, H3.out.2.1, H3.out.1, H3.out.2.2⟩
end Go.Proofs.YtifmekijdepokaaDoor
