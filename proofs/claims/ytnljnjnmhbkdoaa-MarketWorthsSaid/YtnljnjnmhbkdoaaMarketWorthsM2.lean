/- Laws and contracts that the proof of MarketWorths uses, part 8. -/
import Derived.Test.YtnljnjnmhbkdoaaMarketWorthsM1
import Derived.Test.YtnljnjnmhbkdoaaBaseM2
import Derived.Deep.RegionLaw
import Derived.Test.YtnljnjnmhbkdoaaBaseM6
import Derived.Test.YtnljnjnmhbkdoaaBaseM3
import Derived.Test.YtnljnjnmhbkdoaaBaseM1
import Derived.Test.YtnljnjnmhbkdoaaBaseM4
namespace Go.Proofs.Ytnljnjnmhbkdoaa
open Go.RowKit

/- Contract: priced of the reference's solver. -/

set_option maxRecDepth 100000 in
set_option maxHeartbeats 8000000 in
theorem r4priced_any (A : Option Addr) (n c : Nat) (U : Option Addr) (d k set : Nat) (B : List Int) (V : List (List Int)) (w : World) (h : MkIn w A n U k B V) (hs : set < 512)
    (hu : ∀ i x, i < n → x < k → set.testBit (i * k + x) = true → 1 ≤ useN V i x ∧ useN V i x ≤ 20) (hsome : ∀ g, g < k → (outF B V n k set k g).isSome = true) :
    Calls Try.prog 44 #[.agg #[.slice A n c, .slice U n d], .int .i64 n, .int .i64 k, .int .i64 set] w fun e w' => ∃ g, e = .returned (.tuple #[.slice (some ⟨g, 0, none⟩) k k, .bool true]) ∧ Fracs w' (some ⟨g, 0, none⟩) (pricedL B V n k set) ∧ Below w.heap.size w w' := by
  have hn := h.hn
  have hk := h.hk
  have hbud := h.buds
  obtain ⟨w1, hw1⟩ : ∃ w1, w1 = (w.alloc (.cells #[.slice A n c, .slice U n d] 25)).alloc (.cells (prA (List.replicate k (0, 0))) 37) := ⟨_, rfl⟩
  have hb1 : Below w.heap.size w w1 := by rw [hw1]; exact ((Below.refl _ _).alloc (Nat.le_refl _) _).alloc (by simp) _
  have hM1 : Blk w1 w.heap.size 25 #[.slice A n c, .slice U n d] := by rw [hw1]; exact (Blk.new _ _ _ rfl).alloc _
  have hO1 : PrB w1 (w.heap.size + 1) 37 (optL (outF B V n k set 0) k) := by
    rw [hw1, show outF B V n k set 0 = fun _ => none from rfl, ← optL_none]
    exact Blk.new _ _ _ (by simp)
  have hsz1 : w1.heap.size = w.heap.size + 2 := by rw [hw1]; simp
  obtain ⟨aU, rfl, _, _⟩ := h.mkt.uses.some_ (by rw [h.mkt.hV]; omega)
  have hrow : ∀ i, i < n → (rowV V i).length = k := fun i hi => (rowOk_iff.1 (h.rows _ (List.mem_of_getElem? (rowV_some (by rw [h.mkt.hV]; exact hi))))).1
  have hrd : ∀ (wx : World), Below w.heap.size w wx → ∀ i, i < n → ∃ aR cR, wx.cell? (aU.add i) = some (.slice (some aR) k cR) ∧ ∀ g, g < k → wx.cell? (aR.add g) = some (.int .i64 (useN V i g)) := fun wx hb i hi => by
    obtain ⟨aU', hUA, _, hcU⟩ := (h.mkt.uses.below hb).some_ (by rw [h.mkt.hV]; omega)
    injection hUA with hUA
    subst hUA
    obtain ⟨aR0, cR, hcR, _, _, hIR⟩ := hcU i _ (rowV_some (by rw [h.mkt.hV]; exact hi))
    rw [hrow i hi] at hcR
    obtain ⟨aR, rfl, _, hcI⟩ := hIR.some_ (by rw [hrow i hi]; omega)
    refine ⟨aR, cR, hcR, fun g hg => hcI g _ ?_⟩
    unfold useN
    rw [List.getD_eq_getElem?_getD, List.getElem?_eq_getElem (by rw [hrow i hi]; exact hg)]; rfl
  have H := Lib.hid (And.intro hM1 (And.intro hb1 (And.intro hO1 (And.intro hrd (And.intro hu (And.intro hsome h))))))
  have hwl := hM1.lt
  clear h hM1 hb1 hO1 hrow hrd hu hsome
  obtain ⟨S, hS⟩ : ∃ S, S = n + k := ⟨_, rfl⟩
  have hSw : (n : Int) + (k : Int) = (S : Int) := by omega
  have HS := Lib.hid hS
  clear hS
  have hmk := make_fracs4 k (by omega)
  go_enter Try.func44, Try.ntmps44
  go_wp2_with fail
  rw [← hw1]
  clear hw1
  go_loopw [25] (fun iv wx => ∃ f : Nat, f ≤ k ∧ iv = .int .i64 f ∧ PrB wx (w.heap.size + 1) 37 (optL (outF B V n k set f) k) ∧ Kept w1.heap.size [w.heap.size + 1] w1 wx) (fun iv _ => k - (intOf iv).toNat)
  case atStart => exact ⟨0, Nat.zero_le _, rfl, H.out.2.2.1, Kept.refl _ _ _⟩
  case round =>
    obtain ⟨f, hf, rfl, hO, hkp⟩ := hrel
    obtain ⟨wo, rfl⟩ : ∃ wo : World, wo = wr := ⟨_, rfl⟩
    have HO := Lib.hid (And.intro hO hkp)
    have hso := hkp.size
    clear hO hkp
    by_cases hfk : f < k
    · have l1 : (f : Int) < (k : Int) := by omega
      have l2 : (0 : Int) ≤ (f : Int) := by omega
      cases hof : outF B V n k set f f with
      | some q =>
        obtain ⟨r1, r2⟩ := HO.out.1.read (optL_some hfk hof)
        have hqd := den_pos q
        have hnx : outF B V n k set (f + 1) = outF B V n k set f := by
          simp only [outF]
          rw [hof]; rfl
        have HN := Lib.hid hnx
        clear hof hnx
        go_wp2_with fail
        go_roundw
        case rel => exact ⟨f + 1, by omega, by go_num, by rw [HN.out]; exact HO.out.1, HO.out.2⟩
        case measure => simp [intOf]; omega
      | none =>
        obtain ⟨_, r2⟩ := HO.out.1.read (optL_no hfk hof)
        have hnx : outF B V n k set (f + 1) = outG (outF B V n k set f) (relF V n k set f) (facR B V n k set f) k := by
          simp only [outF]
          rw [hof]; rfl
        have HN := Lib.hid hnx
        clear hof hnx
        obtain ⟨gR, hgR⟩ : ∃ g, g = wo.heap.size := ⟨_, rfl⟩
        obtain ⟨wA, hwA⟩ : ∃ wA, wA = wo.alloc (.cells (prA (List.replicate k (0, 0))) 37) := ⟨_, rfl⟩
        obtain ⟨w2, hw2⟩ : ∃ w2, w2 = (wA.setCell ⟨gR, f * 2, none⟩ (.int .i64 1)).setCell ⟨gR, f * 2 + 1, none⟩ (.int .i64 1) := ⟨_, rfl⟩
        have hP0 : PrB wA gR 37 (List.replicate k (0, 0)) := by rw [hwA]; exact Blk.new _ _ _ hgR
        obtain ⟨p1, p2⟩ := hP0.read (k := f) (a := 0) (b := 0) (by rw [List.getElem?_replicate, if_pos hfk])
        have p3 := hP0.frozen (f * 2)
        have p4 := hP0.frozen (f * 2 + 1)
        have hP2 : PrB w2 gR 37 (optL (rel0 f) k) := by
          have h1 := hP0.set_ f 1 1
          rw [optL_rel0 hfk, ← hw2] at h1
          exact h1
        have hk2 : Kept wo.heap.size [] wo w2 := by
          rw [hw2, hwA]
          exact (((Kept.refl _ _ _).alloc (Nat.le_refl _) _).setCell (.inr (by show wo.heap.size ≤ gR; omega)) _).setCell (.inr (by show wo.heap.size ≤ gR; omega)) _
        have hs2 : w2.heap.size = wo.heap.size + 1 := by rw [hw2, hwA]; simp [World.setCell]
        have H2 := Lib.hid (And.intro hP2 hk2)
        clear hP0 hP2 hk2
        go_upto_region 7 with fail
        rw [← hgR, ← hwA]
        have HGR := Lib.hid hgR
        have hgl : wo.heap.size ≤ gR ∧ gR < w2.heap.size := by omega
        clear hwA hgR
        go_upto_region 8 with fail
        rw [← hw2]
        clear hw2 p1 p2 p3 p4 r2
        have hk5 := hwl
        have hbel : ∀ wx, Kept w2.heap.size [gR] w2 wx → Below w.heap.size w wx ∧ Blk wx w.heap.size 25 #[.slice A n c, .slice (some aU) n d] := fun wx hk => by
          have h1 : Kept w1.heap.size [w.heap.size + 1] w1 wx := (HO.out.2.trans (H2.out.2.mono hso (fun x hx => by simp at hx))).trans (hk.mono (by omega) (fun x hx => by simp at hx; right; omega))
          exact ⟨H.out.2.1.trans (h1.mono (B' := w.heap.size) (S' := []) (by omega) (fun x hx => by simp at hx; right; omega)).below, H.out.1.kept h1 hwl (by simp)⟩
        have HBEL := Lib.hid hbel
        clear hbel hk5
        go_wp2_with fail
        go_loopw [43] (fun tv wx => ∃ (t m : Nat), t ≤ S ∧ tv = .int .i64 t ∧ PrB wx gR 37 (optL (relR V n k set (rel0 f) t) k) ∧ RB k (relR V n k set (rel0 f) t) m ∧ Kept w2.heap.size [gR] w2 wx) (fun tv _ => S - (intOf tv).toNat)
        case atStart => exact ⟨0, 2 ^ f, Nat.zero_le _, rfl, H2.out.1, RB.start hfk, Kept.refl _ _ _⟩
        case round =>
          obtain ⟨t, mt, ht, rfl, hP, hB, hkk⟩ := hrel
          obtain ⟨wt, rfl⟩ : ∃ wo : World, wo = wr := ⟨_, rfl⟩
          have HT := Lib.hid (And.intro hP (And.intro hB hkk))
          clear hP hB hkk
          by_cases htS : t < S
          · have l3 : (t : Int) < (S : Int) := by omega
            have hnx : relR V n k set (rel0 f) (t + 1) = relI V k set (relR V n k set (rel0 f) t) n := rfl
            have HNT := Lib.hid hnx
            obtain ⟨r0, hr0⟩ : ∃ r, r = relR V n k set (rel0 f) t := ⟨_, rfl⟩
            rw [← hr0] at HT HNT
            clear hnx hr0
            go_wp2_with fail
            go_loopw [46] (fun iv wx => ∃ (i m : Nat), i ≤ n ∧ iv = .int .i64 i ∧ PrB wx gR 37 (optL (relI V k set r0 i) k) ∧ RB k (relI V k set r0 i) m ∧ Kept w2.heap.size [gR] w2 wx) (fun iv _ => n - (intOf iv).toNat)
            case atStart => exact ⟨0, mt, Nat.zero_le _, rfl, HT.out⟩
            case round =>
              obtain ⟨i, mi, hi, rfl, hP, hB, hkk⟩ := hrel
              obtain ⟨wi, rfl⟩ : ∃ wo : World, wo = wr := ⟨_, rfl⟩
              have HI := Lib.hid (And.intro hP (And.intro hB hkk))
              clear hP hB hkk
              by_cases hin : i < n
              · have l4 : (i : Int) < (n : Int) := by omega
                have l4' : (0 : Int) ≤ (i : Int) := by omega
                have hnx : relI V k set r0 (i + 1) = relG V k set i (relI V k set r0 i) k := rfl
                have HNI := Lib.hid hnx
                obtain ⟨ra, hra⟩ : ∃ r, r = relI V k set r0 i := ⟨_, rfl⟩
                rw [← hra] at HI HNI
                clear hnx hra
                go_wp2_with fail
                go_loopw [50] (fun gv wx => ∃ (g m : Nat), g ≤ k ∧ gv = .int .i64 g ∧ PrB wx gR 37 (optL (relG V k set i ra g) k) ∧ RB k (relG V k set i ra g) m ∧ Kept w2.heap.size [gR] w2 wx) (fun gv _ => k - (intOf gv).toNat)
                case atStart => exact ⟨0, mi, Nat.zero_le _, rfl, HI.out⟩
                case round =>
                  obtain ⟨g, mg, hg, rfl, hP, hB, hkk⟩ := hrel
                  obtain ⟨wg, rfl⟩ : ∃ wo : World, wo = wr := ⟨_, rfl⟩
                  have HG := Lib.hid (And.intro hP (And.intro hB hkk))
                  clear hP hB hkk
                  by_cases hgk : g < k
                  · have l5 : (g : Int) < (k : Int) := by omega
                    have l5' : (0 : Int) ≤ (g : Int) := by omega
                    have hnx : relG V k set i ra (g + 1) = relH V k set i (relG V k set i ra g) g k := rfl
                    have HNG := Lib.hid hnx
                    obtain ⟨rb, hrb⟩ : ∃ r, r = relG V k set i ra g := ⟨_, rfl⟩
                    rw [← hrb] at HG HNG
                    clear hnx hrb
                    go_wp2_with fail
                    go_loopw [54] (fun hv wx => ∃ (x m : Nat), x ≤ k ∧ hv = .int .i64 x ∧ PrB wx gR 37 (optL (relH V k set i rb g x) k) ∧ RB k (relH V k set i rb g x) m ∧ Kept w2.heap.size [gR] w2 wx) (fun hv _ => k - (intOf hv).toNat)
                    case atStart => exact ⟨0, mg, Nat.zero_le _, rfl, HG.out⟩
                    case round =>
                      obtain ⟨x, mx, hx, rfl, hP, hB, hkk⟩ := hrel
                      obtain ⟨wh, rfl⟩ : ∃ wo : World, wo = wr := ⟨_, rfl⟩
                      by_cases hxk : x < k
                      · have l6 : (x : Int) < (k : Int) := by omega
                        have l6' : (0 : Int) ≤ (x : Int) := by omega
                        have hnx : relH V k set i rb g (x + 1) = relS V k set i (relH V k set i rb g x) g x := rfl
                        obtain ⟨rc, hrc⟩ : ∃ r, r = relH V k set i rb g x := ⟨_, rfl⟩
                        rw [← hrc] at hP hB hnx
                        have hnb := hB.step (V := V) (i := i) (set := set) (g := g) hxk (fun y hy hb => H.out.2.2.2.2.1 i y hin hy hb)
                        have HX := Lib.hid (And.intro hP (And.intro hB (And.intro hkk (And.intro hnx hnb))))
                        obtain ⟨P, hPP, hP2⟩ : ∃ P : Nat, (P : Int) = (i : Int) * (k : Int) ∧ P = i * k := ⟨i * k, by push_cast; rfl, rfl⟩
                        have hPb : P ≤ 6 := by rw [hP2]; have := Nat.mul_le_mul (show i ≤ 2 by omega) hk.2; omega
                        obtain ⟨J, hJ⟩ : ∃ J, J = P + g := ⟨_, rfl⟩
                        obtain ⟨J2, hJ2⟩ : ∃ J, J = P + x := ⟨_, rfl⟩
                        have hPw : (i : Int) * (k : Int) = (P : Int) := hPP.symm
                        have hJw : (P : Int) + (g : Int) = (J : Int) := by omega
                        have hJ2w : (P : Int) + (x : Int) = (J2 : Int) := by omega
                        have HJ := Lib.hid (And.intro (show i * k + g = J by rw [hJ, hP2]) (show i * k + x = J2 by rw [hJ2, hP2]))
                        have hJ9 : J < 9 := by omega
                        have hJ29 : J2 < 9 := by omega
                        have hno : (set.testBit (i * k + g) && (set.testBit (i * k + x) && ((rc g).isSome && (rc x).isNone))) = false → relS V k set i rc g x = rc := fun h => by
                          unfold relS; rw [h]; rfl
                        have HNO := Lib.hid hno
                        clear hP hB hkk hnx hnb hrc hPP hP2 hJ hJ2 hno
                        cases hb1 : set.testBit J with
                        | false =>
                          have hbt := shr_f (set := set) (b := J) hs hb1
                          have HE := Lib.hid (HNO.out (by rw [HJ.out.1, hb1]; rfl))
                          clear hb1
                          go_wp2_with fail
                          go_roundw
                          case rel => exact ⟨x + 1, mx, by omega, by go_num, by rw [HX.out.2.2.2.1, HE.out]; exact HX.out.1, by rw [HX.out.2.2.2.1, HE.out]; exact HX.out.2.1, HX.out.2.2.1⟩
                          case measure => simp [intOf]; omega
                        | true =>
                          have hbt := shr_t (set := set) (b := J) hs hb1
                          cases hb2 : set.testBit J2 with
                          | false =>
                            have hbt2 := shr_f (set := set) (b := J2) hs hb2
                            have HE := Lib.hid (HNO.out (by rw [HJ.out.2, hb2, Bool.false_and, Bool.and_false]))
                            clear hb1 hb2
                            go_wp2_with fail
                            go_roundw
                            case rel => exact ⟨x + 1, mx, by omega, by go_num, by rw [HX.out.2.2.2.1, HE.out]; exact HX.out.1, by rw [HX.out.2.2.2.1, HE.out]; exact HX.out.2.1, HX.out.2.2.1⟩
                            case measure => simp [intOf]; omega
                          | true =>
                            have hbt2 := shr_t (set := set) (b := J2) hs hb2
                            cases hg0 : rc g with
                            | none =>
                              obtain ⟨v1, v2⟩ := HX.out.1.read (optL_no hgk hg0)
                              have HE := Lib.hid (HNO.out (by rw [hg0]; simp))
                              clear hb1 hb2 hg0
                              go_wp2_with fail
                              go_roundw
                              case rel => exact ⟨x + 1, mx, by omega, by go_num, by rw [HX.out.2.2.2.1, HE.out]; exact HX.out.1, by rw [HX.out.2.2.2.1, HE.out]; exact HX.out.2.1, HX.out.2.2.1⟩
                              case measure => simp [intOf]; omega
                            | some q =>
                              obtain ⟨v1, v2⟩ := HX.out.1.read (optL_some hgk hg0)
                              have hqd := den_pos q
                              cases hx0 : rc x with
                              | some q' =>
                                obtain ⟨v3, v4⟩ := HX.out.1.read (optL_some hxk hx0)
                                have hqd' := den_pos q'
                                have hqn : ¬ (q'.den : Int) = 0 := by omega
                                have hqn2 : ¬ q'.den = 0 := by omega
                                have HE := Lib.hid (HNO.out (by rw [hx0]; simp))
                                clear hb1 hb2 hg0 hx0
                                go_wp2_with fail
                                go_roundw
                                case rel => exact ⟨x + 1, mx, by omega, by go_num, by rw [HX.out.2.2.2.1, HE.out]; exact HX.out.1, by rw [HX.out.2.2.2.1, HE.out]; exact HX.out.2.1, HX.out.2.2.1⟩
                                case measure => simp [intOf]; omega
                              | none =>
                                obtain ⟨v3, v4⟩ := HX.out.1.read (optL_no hxk hx0)
                                have HX0 := Lib.hid hx0
                                have hrel : relS V k set i rc g x = upd rc x (some (q * (useQ V i x / useQ V i g))) := by
                                  unfold relS
                                  rw [HJ.out.1, HJ.out.2, hb1, hb2, hg0, hx0]; rfl
                                obtain ⟨u1, u2⟩ := H.out.2.2.2.2.1 i g hin hgk (by rw [HJ.out.1]; exact hb1)
                                obtain ⟨u3, u4⟩ := H.out.2.2.2.2.1 i x hin hxk (by rw [HJ.out.2]; exact hb2)
                                obtain ⟨z1, z2, z3⟩ := HX.out.2.1.sz hk.2 hg0
                                obtain ⟨hbw, hbx⟩ := HBEL.out wh HX.out.2.2.1
                                obtain ⟨m1, m2, _, _⟩ := hbx.at2
                                obtain ⟨aR, cR, s1, s2⟩ := H.out.2.2.2.1 wh hbw i hin
                                have s3 := s2 g hgk
                                have s4 := s2 x hxk
                                have hof := fun w' => (rof_div (useN V i x) (useN V i g) w' ⟨u3, u4⟩ ⟨u1, u2⟩).1
                                obtain ⟨o1, o2, o3⟩ := (rof_div (useN V i x) (useN V i g) wh ⟨u3, u4⟩ ⟨u1, u2⟩).2
                                have HREL := Lib.hid hrel
                                unfold useQ at HREL
                                clear hrel hbw hbx s2 hb1 hb2 hg0 hx0
                                obtain ⟨y, hy⟩ : ∃ y, y = ((useN V i x : Int) : Rat) / ((useN V i g : Int) : Rat) := ⟨_, rfl⟩
                                rw [← hy] at hof o1 o2 o3 HREL
                                clear hy
                                generalize useN V i x = ux at *
                                generalize useN V i g = ug at *
                                have hyd := den_pos y
                                have n1 : 0 ≤ q.num * y.num := Int.mul_nonneg (by omega) (by omega)
                                have n2 : q.num * y.num ≤ 400 * 20 := Int.mul_le_mul z2 o2 (by omega) (by omega)
                                have n3 : (q.den : Int) * y.den ≤ 400 * 20 := Int.mul_le_mul z3 o3 (by omega) (by omega)
                                have hmul : ∀ w', Calls Try.prog 19 #[.agg #[.int .i64 q.num, .int .i64 (q.den : Int)], .agg #[.int .i64 y.num, .int .i64 (y.den : Int)]] w' fun e w'' => e = .returned (.agg #[.int .i64 (q * y).num, .int .i64 ((q * y).den : Int)]) ∧ Below w'.heap.size w' w'' := fun w' => rmul_raw q y w' (by omega) (by omega) (by omega)
                                obtain ⟨z, hz⟩ : ∃ z, z = q * y := ⟨_, rfl⟩
                                rw [← hz] at hmul HREL
                                have d1 : ∀ s : Desc wh, s.val.cell? ⟨w.heap.size, 1, none⟩ = some (.slice (some aU) n d) := fun s => s.cell m2
                                have d2 : ∀ s : Desc wh, s.val.cell? (aU.add i) = some (.slice (some aR) k cR) := fun s => s.cell s1
                                have d3 : ∀ s : Desc wh, s.val.cell? (aR.add g) = some (.int .i64 ug) := fun s => s.cell s3
                                have d4 : ∀ s : Desc wh, s.val.cell? (aR.add x) = some (.int .i64 ux) := fun s => s.cell s4
                                have d5 : ∀ s : Desc wh, s.val.cell? ⟨gR, g * 2, none⟩ = some (.int .i64 q.num) := fun s => s.cell v1
                                have d6 : ∀ s : Desc wh, s.val.cell? ⟨gR, g * 2 + 1, none⟩ = some (.int .i64 (q.den : Int)) := fun s => s.cell v2
                                have HOF : Hid (∀ sd : Desc wh, Calls Try.prog 41 #[.int .i64 ux, .int .i64 ug] sd.val fun e w'' => e = .returned (.agg #[.int .i64 y.num, .int .i64 (y.den : Int)]) ∧ ∃ s' : Desc wh, w'' = s'.val) := Lib.hid fun sd => Calls.desc_of (hof sd.val)
                                have HMU : Hid (∀ sd : Desc wh, Calls Try.prog 19 #[.agg #[.int .i64 q.num, .int .i64 (q.den : Int)], .agg #[.int .i64 y.num, .int .i64 (y.den : Int)]] sd.val fun e w'' => e = .returned (.agg #[.int .i64 z.num, .int .i64 (z.den : Int)]) ∧ ∃ s' : Desc wh, w'' = s'.val) := Lib.hid fun sd => Calls.desc_of (hmul sd.val)
                                clear hof hmul n1 n2 n3 o1 o2 o3 z1 z2 z3 u1 u2 u3 u4 s1 s3 s4 m1 m2 hyd hz
                                go_upto_region 20 with fail
                                clear v1 v2 v3 v4 hbt hbt2
                                refine wp_region_desc_tail 25 (by kernel_rfl) (by kernel_rfl) ?_
                                simp only [List.take_succ_cons, List.take_zero, List.drop_succ_cons, List.drop_zero]
                                repeat (go_big_quiet_step (first | (go_at_call 41; exact HOF.out _) | (go_at_call 19; exact HMU.out _)))
                                refine wpQuiet_nil ?_
                                rintro _ ⟨sd, rfl⟩
                                have hb8 := sd.below
                                generalize sd.val = w8 at hb8 ⊢
                                clear d1 d2 d3 d4 d5 d6
                                have hP8 := HX.out.1.below hb8 HX.out.1.lt
                                obtain ⟨y1, y2⟩ := hP8.read (optL_no hxk HX0.out)
                                have y3 := hP8.frozen (x * 2)
                                have y4 := hP8.frozen (x * 2 + 1)
                                have h9 := hP8.set_ x z.num z.den
                                rw [optL_set hxk, ← HREL.out, ← HX.out.2.2.2.1] at h9
                                have hk9 := ((HX.out.2.2.1.trans (Kept.of_below (hb8.mono HX.out.2.2.1.size) [gR])).setCell (p := ⟨gR, x * 2, none⟩) (.inl (by simp)) (.int .i64 z.num)).setCell (p := ⟨gR, x * 2 + 1, none⟩) (.inl (by simp)) (.int .i64 (z.den : Int))
                                have H9 := Lib.hid (And.intro h9 hk9)
                                clear hP8 hb8 h9 hk9
                                go_wp2_with fail
                                go_roundw
                                case rel => exact ⟨x + 1, _, by omega, by go_num, H9.out.1, by rw [HX.out.2.2.2.1]; exact HX.out.2.2.2.2, H9.out.2⟩
                                case measure => simp [intOf]; omega
                      · obtain rfl : k = x := by omega
                        go_wp2_with fail
                        go_roundw
                        case rel => exact ⟨g + 1, mx, by omega, by go_num, by rw [HNG.out]; exact hP, by rw [HNG.out]; exact hB, hkk⟩
                        case measure => simp [intOf]; omega
                  · obtain rfl : k = g := by omega
                    go_wp2_with fail
                    go_roundw
                    case rel => exact ⟨i + 1, mg, by omega, by go_num, by rw [HNI.out]; exact HG.out.1, by rw [HNI.out]; exact HG.out.2.1, HG.out.2.2⟩
                    case measure => simp [intOf]; omega
              · obtain rfl : n = i := by omega
                go_wp2_with fail
                go_roundw
                case rel => exact ⟨t + 1, mi, by omega, by go_num, by rw [HNT.out]; exact HI.out.1, by rw [HNT.out]; exact HI.out.2.1, HI.out.2.2⟩
                case measure => simp [intOf]; omega
          · obtain rfl : S = t := by omega
            have hrF : relR V n k set (rel0 f) S = relF V n k set f := by rw [HS.out]; rfl
            rw [hrF] at HT
            obtain ⟨rF, hrFe⟩ : ∃ r, r = relF V n k set f := ⟨_, rfl⟩
            rw [← hrFe] at HT HN
            have hfac : facR B V n k set f = ((budP B (partF n k set (n + f)) n : Int) : Rat) / sumR rF k := by rw [hrFe]; rfl
            have HFA := Lib.hid hfac
            clear hrF hrFe hfac
            obtain ⟨gS, hgS⟩ : ∃ g, g = wt.heap.size := ⟨_, rfl⟩
            obtain ⟨w6, hw6⟩ : ∃ w6, w6 = wt.alloc (.cells #[.int .i64 0, .int .i64 1] 37) := ⟨_, rfl⟩
            have hS6 : Blk w6 gS 37 #[.int .i64 (sumR rF 0).num, .int .i64 ((sumR rF 0).den : Int)] := by rw [hw6]; exact Blk.new _ _ _ hgS
            have hk6 : Kept wt.heap.size [] wt w6 := by rw [hw6]; exact (Kept.refl _ _ _).alloc (Nat.le_refl _) _
            have hs6 : w6.heap.size = wt.heap.size + 1 := by rw [hw6]; simp
            have hst := HT.out.2.2.size
            have hP6 := HT.out.1.kept hk6 HT.out.1.lt (by simp)
            have H6 := Lib.hid (And.intro hS6 (And.intro hk6 (And.intro hP6 hgS)))
            have hgRl := HT.out.1.lt
            have hgSl : gS < w6.heap.size ∧ gR < gS ∧ w1.heap.size ≤ gR := by omega
            obtain ⟨NF, hNF⟩ : ∃ N, N = n + f := ⟨_, rfl⟩
            have hNw : (n : Int) + (f : Int) = (NF : Int) := by omega
            have hN6 : NF < 6 := by omega
            have HNF := Lib.hid hNF
            have HPT := Lib.hid fun w' => r4part_any n k set NF hn hk hs hN6 w'
            have hpl := partF_lt (n := n) (k := k) (set := set) (node := NF) (by omega) hN6
            rw [← hNF] at HFA
            obtain ⟨pt, hpt⟩ : ∃ p, p = partF n k set NF := ⟨_, rfl⟩
            rw [← hpt] at HPT hpl HFA
            have hbp := budP_bd (pt := pt) hbud n
            clear hS6 hk6 hP6 hNF hpt
            go_upto_region 26 with fail
            rw [← hgS, ← hw6]
            clear hgS hw6
            go_wp2_with fail
            refine (HPT.out _).mono ?_
            rintro e w7 ⟨rfl, hb7⟩
            have H7 := Lib.hid (And.intro (H6.out.1.below hb7 H6.out.1.lt) (And.intro (H6.out.2.2.1.below hb7 H6.out.2.2.1.lt) hb7))
            have hs7 := hb7.size
            clear hb7
            go_wp2_with fail
            go_loopw [131] (fun gv wx => ∃ g : Nat, g ≤ k ∧ gv = .int .i64 g ∧ Blk wx gS 37 #[.int .i64 (sumR rF g).num, .int .i64 ((sumR rF g).den : Int)] ∧ Kept w7.heap.size [gS] w7 wx) (fun gv _ => k - (intOf gv).toNat)
            case atStart => exact ⟨0, Nat.zero_le _, rfl, H7.out.1, Kept.refl _ _ _⟩
            case round =>
              obtain ⟨g, hg, rfl, hSg, hkg⟩ := hrel
              obtain ⟨wg, rfl⟩ : ∃ wo : World, wo = wr := ⟨_, rfl⟩
              have HG := Lib.hid (And.intro hSg hkg)
              have hsg := hkg.size
              clear hSg hkg
              by_cases hgk : g < k
              · have l5 : (g : Int) < (k : Int) := by omega
                have l5' : (0 : Int) ≤ (g : Int) := by omega
                have hPg := H7.out.2.1.kept HG.out.2 (by omega) (by simp; omega)
                have hnx : sumR rF (g + 1) = sumR rF g + (rF g).getD 0 := rfl
                cases hg0 : rF g with
                | none =>
                  obtain ⟨v1, v2⟩ := hPg.read (optL_no hgk hg0)
                  rw [hg0, Option.getD_none] at hnx
                  have HNX := Lib.hid (show sumR rF (g + 1) = sumR rF g by rw [hnx]; exact Rat.add_zero _)
                  clear hPg hnx hg0
                  go_wp2_with fail
                  go_roundw
                  case rel => exact ⟨g + 1, by omega, by go_num, by rw [HNX.out]; exact HG.out.1, HG.out.2⟩
                  case measure => simp [intOf]; omega
                | some q =>
                  obtain ⟨v1, v2⟩ := hPg.read (optL_some hgk hg0)
                  rw [hg0, Option.getD_some] at hnx
                  have hqd := den_pos q
                  obtain ⟨z1, z2, z3⟩ := HT.out.2.1.sz hk.2 hg0
                  obtain ⟨y1, y2, y3⟩ := (HT.out.2.1.sum hk.2).1 g (by omega)
                  obtain ⟨s1, s2, _, _⟩ := HG.out.1.at2
                  obtain ⟨sm, hsm⟩ : ∃ z, z = sumR rF g := ⟨_, rfl⟩
                  rw [← hsm] at y1 y2 y3 s1 s2 hnx
                  have hsd := den_pos sm
                  have n1 : 0 ≤ sm.num * q.den := Int.mul_nonneg y1 (by omega)
                  have n2 : sm.num * (q.den : Int) ≤ 1200 * 400 := Int.mul_le_mul y2 z3 (by omega) (by omega)
                  have n3 : 0 ≤ q.num * sm.den := Int.mul_nonneg (by omega) (by omega)
                  have n4 : q.num * (sm.den : Int) ≤ 400 * 400 := Int.mul_le_mul z2 y3 (by omega) (by omega)
                  have n5 : (sm.den : Int) * q.den ≤ 400 * 400 := Int.mul_le_mul y3 z3 (by omega) (by omega)
                  have hadd : ∀ w', Calls Try.prog 31 #[.agg #[.int .i64 sm.num, .int .i64 (sm.den : Int)], .agg #[.int .i64 q.num, .int .i64 (q.den : Int)]] w' fun e w'' => e = .returned (.agg #[.int .i64 (sm + q).num, .int .i64 ((sm + q).den : Int)]) ∧ Below w'.heap.size w' w'' := fun w' => radd_raw sm q w' (by omega) (by omega) (by omega) (by omega) (by omega)
                  obtain ⟨z, hz⟩ : ∃ z, z = sm + q := ⟨_, rfl⟩
                  rw [← hz] at hadd hnx
                  have d1 : ∀ s : Desc wg, s.val.cell? ⟨gS, 0, none⟩ = some (.int .i64 sm.num) := fun s => s.cell s1
                  have d2 : ∀ s : Desc wg, s.val.cell? ⟨gS, 1, none⟩ = some (.int .i64 (sm.den : Int)) := fun s => s.cell s2
                  have d5 : ∀ s : Desc wg, s.val.cell? ⟨gR, g * 2, none⟩ = some (.int .i64 q.num) := fun s => s.cell v1
                  have d6 : ∀ s : Desc wg, s.val.cell? ⟨gR, g * 2 + 1, none⟩ = some (.int .i64 (q.den : Int)) := fun s => s.cell v2
                  have HADD : Hid (∀ sd : Desc wg, Calls Try.prog 31 #[.agg #[.int .i64 sm.num, .int .i64 (sm.den : Int)], .agg #[.int .i64 q.num, .int .i64 (q.den : Int)]] sd.val fun e w'' => e = .returned (.agg #[.int .i64 z.num, .int .i64 (z.den : Int)]) ∧ ∃ s' : Desc wg, w'' = s'.val) := Lib.hid fun sd => Calls.desc_of (hadd sd.val)
                  have HNX := Lib.hid (And.intro hnx (show Blk wg gS 37 #[.int .i64 sm.num, .int .i64 (sm.den : Int)] by rw [hsm]; exact HG.out.1))
                  clear n1 n2 n3 n4 n5 hadd hz hsm hsd s1 s2 y1 y2 y3 z1 z2 z3 hPg hnx hg0 v1
                  go_upto_region 31 with fail
                  clear v2
                  refine wp_region_desc_tail 6 (by kernel_rfl) (by kernel_rfl) ?_
                  simp only [List.take_succ_cons, List.take_zero, List.drop_succ_cons, List.drop_zero]
                  repeat (go_big_quiet_step (first | (go_at_call 31; exact HADD.out _)))
                  refine wpQuiet_nil ?_
                  rintro _ ⟨sd, rfl⟩
                  have hb8 := sd.below
                  generalize sd.val = w8 at hb8 ⊢
                  clear d1 d2 d5 d6
                  have hB8 := HNX.out.2.below hb8 HNX.out.2.lt
                  obtain ⟨y1, y2, y3, y4⟩ := hB8.at2
                  have hk9 := ((HG.out.2.trans (Kept.of_below (hb8.mono hsg) [gS])).setCell (p := ⟨gS, 0, none⟩) (.inl (by simp)) (.int .i64 z.num)).setCell (p := ⟨gS, 1, none⟩) (.inl (by simp)) (.int .i64 (z.den : Int))
                  have H9 := Lib.hid (And.intro ((hB8.set_ 0 (.int .i64 z.num)).set_ 1 (.int .i64 (z.den : Int))) hk9)
                  clear hB8 hb8 hk9
                  go_wp2_with fail
                  go_roundw
                  case rel => exact ⟨g + 1, by omega, by go_num, by rw [HNX.out.1]; exact H9.out.1, H9.out.2⟩
                  case measure => simp [intOf]; omega
              · obtain rfl : k = g := by omega
                have hfc := HT.out.2.1.fac hk.2 (b := budP B pt n) (by omega)
                obtain ⟨hsz, hsp⟩ := HT.out.2.1.sum hk.2
                have hsk := hsz k (Nat.le_refl _)
                obtain ⟨sm, hsm⟩ : ∃ z, z = sumR rF k := ⟨_, rfl⟩
                rw [← hsm] at hfc hsp hsk HG HFA
                have HSM := Lib.hid (And.intro hsp (And.intro hsk hfc))
                have hP9 := H7.out.2.1.kept HG.out.2 (by omega) (by simp; omega)
                have hk29 : Kept w2.heap.size [gR] w2 wg := ((HT.out.2.2.trans (H6.out.2.1.mono (B' := w2.heap.size) (S' := [gR]) hst (fun x hx => by simp at hx))).trans (Kept.of_below (H7.out.2.2.mono (B' := w2.heap.size) (by omega)) [gR])).trans (HG.out.2.mono (B' := w2.heap.size) (S' := [gR]) (by omega) (fun x hx => by simp at hx; right; omega))
                obtain ⟨hbw, hbx⟩ := HBEL.out wg hk29
                have hko : Kept w1.heap.size [w.heap.size + 1] w1 wg := (HO.out.2.trans (H2.out.2.mono hso (fun x hx => by simp at hx))).trans (hk29.mono (by omega) (fun x hx => by simp at hx; right; omega))
                have hOg : PrB wg (w.heap.size + 1) 37 (optL (outF B V n k set f) k) := HO.out.1.kept ((H2.out.2.mono (Nat.le_refl _) (fun x hx => by simp at hx)).trans (hk29.mono (B' := wo.heap.size) (S' := []) (by omega) (fun x hx => by simp at hx; right; omega))) HO.out.1.lt (by simp)
                have H9 := Lib.hid (And.intro hP9 (And.intro hbw (And.intro hbx (And.intro hko hOg))))
                clear hfc hsz hsp hsk hsm hP9 hk29 hbw hbx hko hOg
                go_wp2_with fail
                go_loopw [17, 148] (fun bv iv wx => ∃ i : Nat, i ≤ n ∧ iv = .int .i64 i ∧ bv = .int .i64 (budP B pt i) ∧ Below wg.heap.size wg wx) (fun _ iv _ => n - (intOf iv).toNat)
                case atStart => exact ⟨0, Nat.zero_le _, rfl, rfl, Below.refl _ _⟩
                case round =>
                  obtain ⟨i, hi, rfl, rfl, hbl⟩ := hrel
                  obtain ⟨wi, rfl⟩ : ∃ wo : World, wo = wr := ⟨_, rfl⟩
                  have HI := Lib.hid hbl
                  clear hbl
                  by_cases hin : i < n
                  · have l6 : (i : Int) < (n : Int) := by omega
                    have l6' : (0 : Int) ≤ (i : Int) := by omega
                    have hbi := budP_bd (pt := pt) hbud i
                    have hnx : budP B pt (i + 1) = budP B pt i + if pt.testBit i then B.getD i 0 else 0 := rfl
                    cases hb : pt.testBit i with
                    | false =>
                      have hbt := bit64_f hpl hb
                      rw [hb, if_neg (by decide), Int.add_zero] at hnx
                      have HNX := Lib.hid hnx
                      clear hb hnx
                      go_wp2_with fail
                      go_roundw
                      case rel => exact ⟨i + 1, by omega, by go_num, by rw [HNX.out], HI.out⟩
                      case measure => simp [intOf]; omega
                    | true =>
                      have hbt := bit64_t hpl hb
                      rw [hb, if_pos rfl] at hnx
                      have HNX := Lib.hid hnx
                      obtain ⟨m1, m2, _, _⟩ := (H9.out.2.2.1.below HI.out H9.out.2.2.1.lt).at2
                      obtain ⟨aB, hAB, _, hcB⟩ := (H.out.2.2.2.2.2.2.mkt.budgets.below (H9.out.2.1.trans (HI.out.mono H9.out.2.1.size))).some_ (by rw [H.out.2.2.2.2.2.2.mkt.hB]; omega)
                      subst hAB
                      have hxi : B[i]? = some (B.getD i 0) := by
                        rw [List.getD_eq_getElem?_getD, List.getElem?_eq_getElem (by rw [H.out.2.2.2.2.2.2.mkt.hB]; exact hin)]; rfl
                      have hbb := hbud (B.getD i 0) (List.mem_of_getElem? hxi)
                      have c1 := hcB i _ hxi
                      obtain ⟨b, hbe⟩ : ∃ b, b = B.getD i 0 := ⟨_, rfl⟩
                      obtain ⟨bs, hbse⟩ : ∃ b, b = budP B pt i := ⟨_, rfl⟩
                      rw [← hbe] at hbb c1 HNX
                      rw [← hbse] at hbi HNX ⊢
                      have hw : wrap64 (bs + b) = bs + b := by
                        have hr : -1000 ≤ bs + b ∧ bs + b ≤ 1000 := by omega
                        generalize bs + b = zz at *
                        unfold wrap64
                        go_num
                      clear hb hnx hcB hxi hbe hbse
                      go_wp2_with fail
                      go_roundw
                      case rel => exact ⟨i + 1, by omega, by go_num, by rw [HNX.out], HI.out⟩
                      case measure => simp [intOf]; omega
                  · obtain rfl : n = i := by omega
                    obtain ⟨bs, hbse⟩ : ∃ b, b = budP B pt n := ⟨_, rfl⟩
                    rw [← hbse] at HFA HSM hbp ⊢
                    obtain ⟨fc, hfce⟩ : ∃ q, q = facR B V n k set f := ⟨_, rfl⟩
                    rw [← hfce] at HFA HN
                    rw [← HFA.out] at HSM
                    have HFC := Lib.hid HFA.out
                    clear hbse hfce
                    go_wp2_with fail
                    go_loopw [165] (fun gv wx => ∃ g : Nat, g ≤ k ∧ gv = .int .i64 g ∧ PrB wx (w.heap.size + 1) 37 (optL (outG (outF B V n k set f) rF fc g) k) ∧ Kept wi.heap.size [w.heap.size + 1] wi wx) (fun gv _ => k - (intOf gv).toNat)
                    case atStart => exact ⟨0, Nat.zero_le _, rfl, H9.out.2.2.2.2.below HI.out H9.out.2.2.2.2.lt, Kept.refl _ _ _⟩
                    case round =>
                      obtain ⟨g, hg, rfl, hPo, hko⟩ := hrel
                      obtain ⟨wx, rfl⟩ : ∃ wo : World, wo = wr := ⟨_, rfl⟩
                      have HX := Lib.hid (And.intro hPo hko)
                      have hsx := hko.size
                      have hsi := HI.out.size
                      clear hPo hko
                      by_cases hgk : g < k
                      · have l5 : (g : Int) < (k : Int) := by omega
                        have l5' : (0 : Int) ≤ (g : Int) := by omega
                        have hPg := (H9.out.1.below HI.out H9.out.1.lt).kept HX.out.2 (by omega) (by simp; omega)
                        have hnx : outG (outF B V n k set f) rF fc (g + 1) = if (rF g).isSome then upd (outG (outF B V n k set f) rF fc g) g (some ((rF g).getD 0 * fc)) else outG (outF B V n k set f) rF fc g := rfl
                        cases hg0 : rF g with
                        | none =>
                          obtain ⟨v1, v2⟩ := hPg.read (optL_no hgk hg0)
                          rw [hg0] at hnx
                          have HNX := Lib.hid (show outG (outF B V n k set f) rF fc (g + 1) = outG (outF B V n k set f) rF fc g from hnx)
                          clear hPg hnx hg0
                          go_wp2_with fail
                          go_roundw
                          case rel => exact ⟨g + 1, by omega, by go_num, by rw [HNX.out]; exact HX.out.1, HX.out.2⟩
                          case measure => simp [intOf]; omega
                        | some q =>
                          obtain ⟨v1, v2⟩ := hPg.read (optL_some hgk hg0)
                          rw [hg0] at hnx
                          have hnx' : outG (outF B V n k set f) rF fc (g + 1) = upd (outG (outF B V n k set f) rF fc g) g (some (q * fc)) := hnx
                          have hqd := den_pos q
                          obtain ⟨z1, z2, z3⟩ := HT.out.2.1.sz hk.2 hg0
                          obtain ⟨hsp, ⟨y1, y2, y3⟩, f1, f2, f3⟩ := HSM.out
                          have hSx := (HG.out.1.below HI.out HG.out.1.lt).kept HX.out.2 (by omega) (by simp; omega)
                          obtain ⟨s1, s2, _, _⟩ := hSx.at2
                          have hsd := den_pos sm
                          have hfd := den_pos fc
                          have hof := fun w' => rof_int bs w' (by omega)
                          have hbs60 : bs ≤ 60 := by omega
                          have n1 : 0 ≤ bs * (sm.den : Int) := Int.mul_nonneg hbp.1 (by omega)
                          have n2 : bs * (sm.den : Int) ≤ 60 * 400 := Int.mul_le_mul hbs60 y3 (by omega) (by omega)
                          have hquo : ∀ w', Calls Try.prog 51 #[.agg #[.int .i64 bs, .int .i64 1], .agg #[.int .i64 sm.num, .int .i64 (sm.den : Int)]] w' fun e w'' => e = .returned (.agg #[.int .i64 fc.num, .int .i64 (fc.den : Int)]) ∧ Below w'.heap.size w' w'' := fun w' => by
                            have h4 := rquo_raw (bs : Rat) sm w' hsp (by rw [Rat.num_intCast]; omega) (by rw [Rat.num_intCast]; omega) (by rw [Rat.den_intCast]; omega)
                            rw [← HFC.out] at h4
                            unfold fr at h4
                            rw [Rat.num_intCast, Rat.den_intCast] at h4
                            exact h4
                          have n3 : 0 ≤ q.num * fc.num := Int.mul_nonneg (by omega) f1
                          have n4 : q.num * fc.num ≤ 400 * 24000 := Int.mul_le_mul z2 f2 f1 (by omega)
                          have n5 : (q.den : Int) * fc.den ≤ 400 * 1200 := Int.mul_le_mul z3 f3 (by omega) (by omega)
                          have hmul : ∀ w', Calls Try.prog 19 #[.agg #[.int .i64 q.num, .int .i64 (q.den : Int)], .agg #[.int .i64 fc.num, .int .i64 (fc.den : Int)]] w' fun e w'' => e = .returned (.agg #[.int .i64 (q * fc).num, .int .i64 ((q * fc).den : Int)]) ∧ Below w'.heap.size w' w'' := fun w' => rmul_raw q fc w' (by omega) (by omega) (by omega)
                          obtain ⟨z, hz⟩ : ∃ z, z = q * fc := ⟨_, rfl⟩
                          rw [← hz] at hmul hnx'
                          have d1 : ∀ s : Desc wx, s.val.cell? ⟨gS, 0, none⟩ = some (.int .i64 sm.num) := fun s => s.cell s1
                          have d2 : ∀ s : Desc wx, s.val.cell? ⟨gS, 1, none⟩ = some (.int .i64 (sm.den : Int)) := fun s => s.cell s2
                          have d5 : ∀ s : Desc wx, s.val.cell? ⟨gR, g * 2, none⟩ = some (.int .i64 q.num) := fun s => s.cell v1
                          have d6 : ∀ s : Desc wx, s.val.cell? ⟨gR, g * 2 + 1, none⟩ = some (.int .i64 (q.den : Int)) := fun s => s.cell v2
                          have HOF : Hid (∀ sd : Desc wx, Calls Try.prog 41 #[.int .i64 bs, .int .i64 1] sd.val fun e w'' => e = .returned (.agg #[.int .i64 bs, .int .i64 1]) ∧ ∃ s' : Desc wx, w'' = s'.val) := Lib.hid fun sd => Calls.desc_of (hof sd.val)
                          have HQU : Hid (∀ sd : Desc wx, Calls Try.prog 51 #[.agg #[.int .i64 bs, .int .i64 1], .agg #[.int .i64 sm.num, .int .i64 (sm.den : Int)]] sd.val fun e w'' => e = .returned (.agg #[.int .i64 fc.num, .int .i64 (fc.den : Int)]) ∧ ∃ s' : Desc wx, w'' = s'.val) := Lib.hid fun sd => Calls.desc_of (hquo sd.val)
                          have HMU : Hid (∀ sd : Desc wx, Calls Try.prog 19 #[.agg #[.int .i64 q.num, .int .i64 (q.den : Int)], .agg #[.int .i64 fc.num, .int .i64 (fc.den : Int)]] sd.val fun e w'' => e = .returned (.agg #[.int .i64 z.num, .int .i64 (z.den : Int)]) ∧ ∃ s' : Desc wx, w'' = s'.val) := Lib.hid fun sd => Calls.desc_of (hmul sd.val)
                          have HNX := Lib.hid hnx'
                          clear n1 n2 n3 n4 n5 hof hquo hmul hz hsd hfd s1 s2 y1 y2 y3 z1 z2 z3 f1 f2 f3 hsp hPg hnx hnx' hg0 hSx v1
                          go_upto_region 43 with fail
                          clear v2
                          refine wp_region_desc_tail 12 (by kernel_rfl) (by kernel_rfl) ?_
                          simp only [List.take_succ_cons, List.take_zero, List.drop_succ_cons, List.drop_zero]
                          repeat (go_big_quiet_step (first | (go_at_call 41; exact HOF.out _) | (go_at_call 51; exact HQU.out _) | (go_at_call 19; exact HMU.out _)))
                          refine wpQuiet_nil ?_
                          rintro _ ⟨sd, rfl⟩
                          have hb8 := sd.below
                          generalize sd.val = w8 at hb8 ⊢
                          clear d1 d2 d5 d6
                          have hP8 := HX.out.1.below hb8 HX.out.1.lt
                          obtain ⟨y1, y2⟩ := hP8.read (optL_get hgk)
                          have y3 := hP8.frozen (g * 2)
                          have y4 := hP8.frozen (g * 2 + 1)
                          have h9 := hP8.set_ g z.num z.den
                          rw [optL_set hgk, ← HNX.out] at h9
                          have hk9 := ((HX.out.2.trans (Kept.of_below (hb8.mono hsx) [w.heap.size + 1])).setCell (p := ⟨w.heap.size + 1, g * 2, none⟩) (.inl (by simp)) (.int .i64 z.num)).setCell (p := ⟨w.heap.size + 1, g * 2 + 1, none⟩) (.inl (by simp)) (.int .i64 (z.den : Int))
                          have H10 := Lib.hid (And.intro h9 hk9)
                          clear hP8 hb8 h9 hk9
                          go_wp2_with fail
                          go_roundw
                          case rel => exact ⟨g + 1, by omega, by go_num, H10.out.1, H10.out.2⟩
                          case measure => simp [intOf]; omega
                      · obtain rfl : k = g := by omega
                        have hkf : Kept w1.heap.size [w.heap.size + 1] w1 wx := (H9.out.2.2.2.1.trans (Kept.of_below (HI.out.mono H9.out.2.2.2.1.size) _)).trans (HX.out.2.mono (by have := H9.out.2.2.2.1.size; omega) (fun x hx => by simp at hx; left; simp [hx]))
                        have HKF := Lib.hid hkf
                        clear hkf
                        go_wp2_with fail
                        go_roundw
                        case rel => exact ⟨f + 1, by omega, by go_num, by rw [HN.out]; exact HX.out.1, HKF.out⟩
                        case measure => simp [intOf]; omega
    · obtain rfl : k = f := by omega
      have hL : optL (outF B V n k set k) k = (pricedL B V n k set).map pr := by
        unfold optL pricedL
        rw [List.map_map]
        refine List.map_congr_left fun x hx => ?_
        obtain ⟨q, hq⟩ := Option.isSome_iff_exists.1 (H.out.2.2.2.2.2.1 x (List.mem_range.1 hx))
        show optP (outF B V n k set k x) = pr ((outF B V n k set k x).getD 0)
        rw [hq]; rfl
      have hfr : Fracs wo (some ⟨w.heap.size + 1, 0, none⟩) (pricedL B V n k set) := by
        have h1 := HO.out.1.prs
        rw [hL] at h1
        exact h1
      have hbw : Below w.heap.size w wo := H.out.2.1.trans (HO.out.2.mono (B' := w.heap.size) (S' := []) (by omega) (fun x hx => by simp at hx; right; omega)).below
      have HE := Lib.hid (And.intro hfr hbw)
      clear hL hfr hbw
      go_wp2_with fail
      go_ret2
      exact ⟨_, rfl, HE.out.1, HE.out.2⟩

/- The reference's prices for the pairs of a balance without a cycle: plain Lean. -/

/-- 1 where a bit is, else 0. -/
def ind (m x : Nat) : Rat := if m.testBit x then 1 else 0
theorem ind_eq {m m' x y : Nat} (h : m.testBit x = m'.testBit y) : ind m x = ind m' y := by unfold ind; rw [h]
theorem budP_Q (B : List Int) (pt : Nat) : ∀ n, ((budP B pt n : Int) : Rat) = sumQ (fun i => ind pt i * budQ B i) n
  | 0 => rfl
  | n + 1 => by
    simp only [budP, sumQ]
    rw [Rat.intCast_add, budP_Q B pt n]
    congr 1
    unfold ind budQ
    split
    · grind
    · show (0 : Rat) = 0 * _; grind
section
variable {B : List Int} {V : List (List Int)} {n k set f : Nat} {p : Nat → Rat} {s : Nat → Nat → Rat}
theorem rel_pq (hf : f < k) (hp : ∀ g, g < k → 0 < p g) (hu : ∀ i x, i < n → x < k → set.testBit (i * k + x) = true → 1 ≤ useN V i x ∧ useN V i x ≤ 20)
    (hpr : ∀ i g h, i < n → g < k → h < k → set.testBit (i * k + g) = true → set.testBit (i * k + h) = true → useQ V i h * p g = useQ V i g * p h) : ∀ x q, relF V n k set f x = some q → q = p x / p f := by
  refine (rel_ind (V := V) (n := n) (k := k) (set := set) (P := fun r m => RB k r m ∧ ∀ x q, r x = some q → q = p x / p f) (fun i g h r m hi hg hh hr => ⟨hr.1.step hh fun x hx hb => hu i x hi hx hb, fun x q hq => ?_⟩)).2.2.2 (rel0 f) (2 ^ f) ⟨RB.start hf, fun x q hq => ?_⟩ (n + k) |>.2
  · unfold relS at hq
    split at hq
    · rename_i hc
      simp only [Bool.and_eq_true] at hc
      obtain ⟨b1, b2, b3, b4⟩ := hc
      by_cases e : x = h
      · subst e
        rw [upd_same] at hq
        injection hq with hq
        obtain ⟨q0, hq0⟩ := Option.isSome_iff_exists.1 b3
        have h1 := hr.2 g q0 hq0
        have h2 := hpr i g x hi hg hh b1 b2
        have hug : useQ V i g ≠ 0 := rat_ne (by have := hu i g hi hg b1; omega)
        have hpf := hp f hf
        rw [← hq, hq0, Option.getD_some, h1]
        generalize useQ V i g = ug at *
        generalize useQ V i x = ux at *
        generalize p g = pg at *
        generalize p x = px at *
        generalize p f = pf at *
        have e1 : px = ux * pg / ug := by grind
        rw [e1]
        grind
      · rw [upd_other _ _ _ e] at hq
        exact hr.2 x q hq
    · exact hr.2 x q hq
  · unfold rel0 at hq
    by_cases e : x = f
    · rw [if_pos e] at hq
      injection hq with hq
      have hpf := hp f hf
      rw [← hq, e]
      grind
    · rw [if_neg e] at hq; cases hq
theorem sumR_pq {r : Rl} {m : Nat} (hd : ∀ x, (r x).isSome = m.testBit x) (h : ∀ x q, r x = some q → q = p x / p f) : ∀ k, sumR r k = sumQ (fun x => ind m x * p x) k / p f
  | 0 => by show (0 : Rat) = 0 / _; rw [Rat.div_def]; grind
  | k + 1 => by
    simp only [sumR, sumQ]
    rw [sumR_pq hd h k]
    unfold ind
    rw [← hd k]
    cases hr : r k with
    | none =>
      simp only [Option.isSome_none, Option.getD_none, Bool.false_eq_true, if_false]
      generalize sumQ (fun x => (if m.testBit x = true then (1 : Rat) else 0) * p x) k = z
      rw [Rat.div_def, Rat.div_def]
      grind
    | some q =>
      rw [h k q hr]
      simp only [Option.isSome_some, Option.getD_some, if_true]
      generalize sumQ (fun x => (if m.testBit x = true then (1 : Rat) else 0) * p x) k = z
      rw [Rat.div_def, Rat.div_def, Rat.div_def]
      grind
theorem conserve (hE : Equi n k (budQ B) (useQ V) p s) (hm : MaskOf n k s set) (hn : 1 ≤ n ∧ n ≤ 3) (hk : 1 ≤ k ∧ k ≤ 3) (he : set < 2 ^ (n * k)) (hf : f < k) : sumQ (fun i => ind (partF n k set (n + f)) i * budQ B i) n = sumQ (fun x => ind (domF n k set f) x * p x) k := by
  have h1 : sumQ (fun i => ind (partF n k set (n + f)) i * budQ B i) n = sumQ (fun i => sumQ (fun g => ind (partF n k set (n + f)) i * s i g) k) n := sumQ_congr fun i hi => by rw [sumQ_mul, hE.row i hi]
  have h2 : sumQ (fun x => ind (domF n k set f) x * p x) k = sumQ (fun g => sumQ (fun i => ind (domF n k set f) g * s i g) n) k := sumQ_congr fun g hg => by rw [sumQ_mul, hE.col g hg]
  rw [h1, h2, sq_swap]
  refine sumQ_congr fun g hg => sumQ_congr fun i hi => ?_
  by_cases h0 : s i g = 0
  · rw [h0]; grind
  · have hb := (hm i g hi hg).2 h0
    have hc := List.all_eq_true.1 (List.all_eq_true.1 ((one_parts hn hk he).2 f hf).1 i (List.mem_range.2 hi)) g (List.mem_range.2 hg)
    rw [hb, Bool.not_true, Bool.false_or, beq_iff_eq] at hc
    rw [ind_eq hc]
theorem out_pq (hE : Equi n k (budQ B) (useQ V) p s) (hm : MaskOf n k s set) (hn : 1 ≤ n ∧ n ≤ 3) (hk : 1 ≤ k ∧ k ≤ 3) (he : set < 2 ^ (n * k)) (hu : ∀ i x, i < n → x < k → set.testBit (i * k + x) = true → 1 ≤ useN V i x ∧ useN V i x ≤ 20) :
    ∀ f, f ≤ k → ∀ x q, outF B V n k set f x = some q → q = p x
  | 0, _ => fun x q hq => by cases hq
  | f + 1, hf => fun x q hq => by
    have ih := out_pq hE hm hn hk he hu f (by omega)
    have hpr : ∀ i g h, i < n → g < k → h < k → set.testBit (i * k + g) = true → set.testBit (i * k + h) = true → useQ V i h * p g = useQ V i g * p h := fun i g h hi hg hh b1 b2 =>
      Rat.le_antisymm (hE.want i g hi hg ((hm i g hi hg).1 b1) h hh) (hE.want i h hi hh ((hm i h hi hh).1 b2) g hg)
    simp only [outF] at hq
    split at hq
    · exact ih x q hq
    · rw [outG_at] at hq
      split at hq
      · rename_i hc
        injection hq with hq
        obtain ⟨r, hr⟩ := Option.isSome_iff_exists.1 hc.2
        have hRB := rl_inv (V := V) (n := n) (set := set) (f := f) (by omega) hu
        have h1 := rel_pq (V := V) (n := n) (set := set) (f := f) (by omega) hE.pos hu hpr
        have h2 := sumR_pq hRB.dom h1 k
        have h3 := conserve hE hm hn hk he (f := f) (by omega)
        have hpf := hE.pos f (by omega)
        have hS : 0 < sumQ (fun x => ind (domF n k set f) x * p x) k := sq_pos (j := f) (fun x hx => by
          have h4 := hE.pos x hx
          refine Rat.mul_nonneg ?_ (Rat.le_of_lt h4)
          unfold ind; split <;> decide) (by omega) (by
          unfold ind
          rw [dom_mono (V := V), if_pos rfl]
          grind)
        rw [← hq, hr, Option.getD_some, h1 x r hr]
        unfold facR
        rw [h2, budP_Q, h3]
        generalize sumQ (fun x => ind (domF n k set f) x * p x) k = S at *
        generalize p f = pf at *
        generalize p x = px at *
        have hS0 : S ≠ 0 := by grind
        have hp0 : pf ≠ 0 := by grind
        grind
      · exact ih x q hq
end

/- Contract: Sums of the reference of the market. -/

/-- A number that is not below 0, of 21 bits. -/
def Q20 (q : Rat) : Prop := 0 ≤ q.num ∧ q.num ≤ 1048576 ∧ (q.den : Int) ≤ 1048576
theorem q20_zero : Q20 0 := ⟨by decide, by decide, by decide⟩
/-- What Sums says of at most three. -/
def sums3 (qs : List Rat) (t : Rat) : Bool := decide (qs.getD 0 0 + qs.getD 1 0 = t - qs.getD 2 0)
theorem sums3_iff {f : Nat → Rat} {k : Nat} (hk : 1 ≤ k ∧ k ≤ 3) {t : Rat} {qs : List Rat} (hq : qs = (List.range k).map f) : sums3 qs t = true ↔ sumQ f k = t := by
  subst hq
  have h1 : k = 1 ∨ k = 2 ∨ k = 3 := by omega
  unfold sums3
  rw [decide_eq_true_iff]
  rcases h1 with rfl | rfl | rfl
  · show f 0 + 0 = t - 0 ↔ 0 + f 0 = t
    constructor <;> intro h <;> grind
  · show f 0 + f 1 = t - 0 ↔ 0 + f 0 + f 1 = t
    constructor <;> intro h <;> grind
  · show f 0 + f 1 = t - f 2 ↔ 0 + f 0 + f 1 + f 2 = t
    constructor <;> intro h <;> grind
theorem size_frac : (Try.prog.info? 37).map (·.size) = some 2 := by kernel_rfl
theorem three_cells {qs : List Rat} {n : Nat} (hl : qs.length = n) (h1 : 1 ≤ n) (h3 : n ≤ 3) : (splice (pcells [(0, 1), (0, 1), (0, 1)]) 0 (pcells (qs.map pr))).toArray = #[.int .i64 (qs.getD 0 0).num, .int .i64 ((qs.getD 0 0).den : Int), .int .i64 (qs.getD 1 0).num, .int .i64 ((qs.getD 1 0).den : Int), .int .i64 (qs.getD 2 0).num, .int .i64 ((qs.getD 2 0).den : Int)] := by
  match qs, hl with
  | [], hl => simp at hl; omega
  | [a], _ => rfl
  | [a, b], _ => rfl
  | [a, b, c], _ => rfl
  | a :: b :: c :: d :: l, hl => simp at hl; omega
theorem q20_get {qs : List Rat} (h : ∀ q ∈ qs, Q20 q) (i : Nat) : Q20 (qs.getD i 0) := by
  rw [List.getD_eq_getElem?_getD]
  cases hi : qs[i]? with
  | none => exact q20_zero
  | some q => exact h q (List.mem_of_getElem? hi)
theorem q20_mul {p q : Rat} (hp : Q20 p) (hq : Q20 q) : 0 ≤ p.num * q.den ∧ p.num * q.den ≤ 1099511627776 ∧ (p.den : Int) * q.den ≤ 1099511627776 := by
  obtain ⟨p1, p2, p3⟩ := hp
  obtain ⟨q1, q2, q3⟩ := hq
  have hpd := den_pos p
  have hqd := den_pos q
  have a0 : 0 ≤ p.num * q.den := Int.mul_nonneg p1 (by omega)
  have a1 : p.num * (q.den : Int) ≤ 1048576 * 1048576 := Int.mul_le_mul p2 q3 (by omega) (by omega)
  have a2 : (p.den : Int) * q.den ≤ 1048576 * 1048576 := Int.mul_le_mul p3 q3 (by omega) (by omega)
  omega
set_option maxRecDepth 100000 in
set_option maxHeartbeats 1600000 in
theorem r4sums_any (A : Option Addr) (n cap : Nat) (qs : List Rat) (t : Rat) (w : World) (hl : qs.length = n) (hn : 1 ≤ n ∧ n ≤ 3) (h : Fracs w A qs) (hq : ∀ q ∈ qs, Q20 q) (ht : Q20 t) :
    Calls Try.prog 46 #[.slice A n cap, .agg #[.int .i64 t.num, .int .i64 (t.den : Int)]] w fun e w' => e = .returned (.bool (sums3 qs t)) ∧ Below w.heap.size w w' := by
  obtain ⟨ad, rfl, _, _⟩ := h.some_ (by omega)
  obtain ⟨w1, hw1⟩ : ∃ w1, w1 = w.alloc (.cells #[.int .i64 t.num, .int .i64 (t.den : Int)] 37) := ⟨_, rfl⟩
  obtain ⟨w2, hw2⟩ : ∃ w2, w2 = w1.alloc (.cells #[.int .i64 0, .int .i64 1, .int .i64 0, .int .i64 1, .int .i64 0, .int .i64 1] 92) := ⟨_, rfl⟩
  have hB1 : Blk w2 w.heap.size 37 #[.int .i64 t.num, .int .i64 (t.den : Int)] := by rw [hw2, hw1]; exact (Blk.new _ _ _ rfl).alloc _
  have hB2 : Blk w2 (w.heap.size + 1) 92 (pcells [(0, 1), (0, 1), (0, 1)]).toArray := by rw [hw2, hw1]; exact Blk.new _ _ _ (by simp)
  have hb2 : Below w.heap.size w w2 := by rw [hw2, hw1]; exact ((Below.refl _ _).alloc (Nat.le_refl _) _).alloc (by simp) _
  have hsrc : ∀ j v, (pcells (qs.map pr))[j]? = some v → w2.cell? (ad.add j) = some v := At.some2 (h.below hb2)
  have hlen : (pcells (qs.map pr)).length = n * 2 := by rw [pcells_length, List.length_map, hl]
  have hfit : 0 + (pcells (qs.map pr)).length ≤ (pcells [((0 : Int), (1 : Int)), (0, 1), (0, 1)]).length := by rw [hlen, pcells_length]; simp; omega
  have hmin : n = Nat.min n 3 := (Nat.min_eq_left hn.2).symm
  have H := Lib.hid (And.intro hB1 (And.intro hB2 (And.intro hb2 (And.intro hsrc (And.intro hlen (And.intro hfit hmin))))))
  have HO := Lib.hid (pcells_one (qs.map pr))
  have HQ := Lib.hid (And.intro hl (And.intro hq ht))
  have hn3 : n ≤ 3 := hn.2
  clear hB1 hB2 hb2 hsrc hlen hfit hmin hl hq ht h
  go_enter Try.func46, Try.ntmps46
  go_upto_region 2 with fail
  rw [← hw1, ← hw2]
  clear hw1 hw2
  go_wp2_with (refine wpList_copy2 (o := ⟨some 12, _, _, _, _, _⟩) rfl (.tmp 10) (.tmp 11) _ _ rfl 37 Try.underlying26 size_frac (w.heap.size + 1) 0 3 3 ad n cap n rfl rfl (pcells [(0, 1), (0, 1), (0, 1)]) 92 H.out.2.1 (pcells (qs.map pr)) H.out.2.2.2.2.2.2 H.out.2.2.2.2.1 H.out.2.2.2.1 H.out.2.2.2.2.2.1 HO.out (w.heap.size + 1) w2 (Below.refl _ _) (Nat.le_refl _) ?_)
  intro w3 hs3 hb3
  have hB3 : Blk w3 (w.heap.size + 1) 92 #[.int .i64 (qs.getD 0 0).num, .int .i64 ((qs.getD 0 0).den : Int), .int .i64 (qs.getD 1 0).num, .int .i64 ((qs.getD 1 0).den : Int), .int .i64 (qs.getD 2 0).num, .int .i64 ((qs.getD 2 0).den : Int)] := by
    have h1 := hs3.out
    rw [three_cells HQ.out.1 hn.1 hn.2] at h1
    exact h1
  have hB4 := H.out.1.below hb3 (by omega)
  have hb4 := H.out.2.2.1.trans (hb3.mono (by omega))
  have q0 := q20_get HQ.out.2.1 0
  have q1 := q20_get HQ.out.2.1 1
  have q2 := q20_get HQ.out.2.1 2
  have ht := HQ.out.2.2
  have hval : sums3 qs t = decide (qs.getD 0 0 + qs.getD 1 0 = t - qs.getD 2 0) := rfl
  generalize qs.getD 0 0 = a at *
  generalize qs.getD 1 0 = b at *
  generalize qs.getD 2 0 = c at *
  have m1 := q20_mul q0 q1
  have m2 := q20_mul q1 q0
  have m3 := q20_mul ht q2
  have m4 := q20_mul q2 ht
  have hadd : ∀ w', Calls Try.prog 31 #[.agg #[.int .i64 a.num, .int .i64 (a.den : Int)], .agg #[.int .i64 b.num, .int .i64 (b.den : Int)]] w' fun e w'' => e = .returned (.agg #[.int .i64 (a + b).num, .int .i64 ((a + b).den : Int)]) ∧ Below w'.heap.size w' w'' := fun w' => radd_raw a b w' (by omega) (by omega) (by omega) (by omega) (by omega)
  have hsub : ∀ w', Calls Try.prog 63 #[.agg #[.int .i64 t.num, .int .i64 (t.den : Int)], .agg #[.int .i64 c.num, .int .i64 (c.den : Int)]] w' fun e w'' => e = .returned (.agg #[.int .i64 (t - c).num, .int .i64 ((t - c).den : Int)]) ∧ Below w'.heap.size w' w'' := fun w' => rsub_raw t c w' (by omega) (by omega) (by omega) (by omega) (by omega)
  have hqe := run_eq_frac7 (a + b) (t - c)
  generalize a + b = x at *
  generalize t - c = y at *
  have d1 : ∀ s : Desc w3, s.val.cell? ⟨w.heap.size, 0, none⟩ = some (.int .i64 t.num) := fun s => s.cell (hB4.cell 0)
  have d2 : ∀ s : Desc w3, s.val.cell? ⟨w.heap.size, 1, none⟩ = some (.int .i64 (t.den : Int)) := fun s => s.cell (hB4.cell 1)
  have d3 : ∀ s : Desc w3, s.val.cell? ⟨w.heap.size + 1, 0, none⟩ = some (.int .i64 a.num) := fun s => s.cell (hB3.cell 0)
  have d4 : ∀ s : Desc w3, s.val.cell? ⟨w.heap.size + 1, 1, none⟩ = some (.int .i64 (a.den : Int)) := fun s => s.cell (hB3.cell 1)
  have d5 : ∀ s : Desc w3, s.val.cell? ⟨w.heap.size + 1, 2, none⟩ = some (.int .i64 b.num) := fun s => s.cell (hB3.cell 2)
  have d6 : ∀ s : Desc w3, s.val.cell? ⟨w.heap.size + 1, 3, none⟩ = some (.int .i64 (b.den : Int)) := fun s => s.cell (hB3.cell 3)
  have d7 : ∀ s : Desc w3, s.val.cell? ⟨w.heap.size + 1, 4, none⟩ = some (.int .i64 c.num) := fun s => s.cell (hB3.cell 4)
  have d8 : ∀ s : Desc w3, s.val.cell? ⟨w.heap.size + 1, 5, none⟩ = some (.int .i64 (c.den : Int)) := fun s => s.cell (hB3.cell 5)
  have HADD : Hid (∀ sd : Desc w3, Calls Try.prog 31 #[.agg #[.int .i64 a.num, .int .i64 (a.den : Int)], .agg #[.int .i64 b.num, .int .i64 (b.den : Int)]] sd.val fun e w'' => e = .returned (.agg #[.int .i64 x.num, .int .i64 (x.den : Int)]) ∧ ∃ s' : Desc w3, w'' = s'.val) := Lib.hid fun sd => Calls.desc_of (hadd sd.val)
  have HSUB : Hid (∀ sd : Desc w3, Calls Try.prog 63 #[.agg #[.int .i64 t.num, .int .i64 (t.den : Int)], .agg #[.int .i64 c.num, .int .i64 (c.den : Int)]] sd.val fun e w'' => e = .returned (.agg #[.int .i64 y.num, .int .i64 (y.den : Int)]) ∧ ∃ s' : Desc w3, w'' = s'.val) := Lib.hid fun sd => Calls.desc_of (hsub sd.val)
  have HB := Lib.hid hb4
  have HV := Lib.hid hval
  clear hs3 hb3 hB3 hB4 hb4 q0 q1 q2 ht hval m1 m2 m3 m4 hadd hsub
  go_wp2_with fail
  refine wp_region_desc (by kernel_rfl) (by kernel_rfl) ?_
  repeat (go_big_quiet_step (first | (go_at_call 31; exact HADD.out _) | (go_at_call 63; exact HSUB.out _)))
  refine wpQuiet_nil ?_
  rintro _ ⟨sd, rfl⟩
  have HBE := Lib.hid (HB.out.trans (sd.below.mono HB.out.size))
  clear d1 d2 d3 d4 d5 d6 d7 d8
  go_wp2_with fail
  go_ret
  exact ⟨ret_bool HV.out.symm, HBE.out⟩

/- Contract: Balance of the reference of the market. -/

def rowB (B : List Int) (V : List (List Int)) (P : List Rat) (L : List (List Rat)) (k i : Nat) : Bool := sums3 (rowQ L i) ((B.getD i 0 : Int) : Rat) && (List.range k).all fun g => (!decide (0 < (spd L i g).num)) || (wantS (rowV V i) P).testBit g
def colL4 (L : List (List Rat)) (n g : Nat) : List Rat := (List.range n).map fun i => spd L i g
def colB (P : List Rat) (L : List (List Rat)) (n g : Nat) : Bool := sums3 (colL4 L n g) (priQ P g)
def refBal (B : List Int) (V : List (List Int)) (P : List Rat) (L : List (List Rat)) (n k : Nat) : Bool := (List.range n).all (rowB B V P L k) && (List.range k).all (colB P L n)
theorem rowQ_map {L : List (List Rat)} {k i : Nat} (h : (rowQ L i).length = k) : rowQ L i = (List.range k).map (spd L i) := by
  apply List.ext_getElem?
  intro g
  by_cases hg : g < k
  · rw [List.getElem?_map, List.getElem?_range hg]
    show _ = some ((rowQ L i).getD g 0)
    rw [List.getD_eq_getElem?_getD, List.getElem?_eq_getElem (by omega)]; rfl
  · rw [List.getElem?_eq_none (by omega), List.getElem?_eq_none (by simp; omega)]
theorem refBal_eq {B : List Int} {V : List (List Int)} {P : List Rat} {L : List (List Rat)} {n k : Nat} (hB : B.length = n) (hn : 1 ≤ n ∧ n ≤ 3) (hk : 1 ≤ k ∧ k ≤ 3) (hl : P.length = k) (hr : ∀ i, i < n → (rowQ L i).length = k) (hnn : ∀ i g, i < n → g < k → 0 ≤ spd L i g) : refBal B V P L n k = balB B V P L := by
  have hP : P = (List.range k).map (priQ P) := by
    apply List.ext_getElem?
    intro g
    by_cases hg : g < k
    · rw [List.getElem?_map, List.getElem?_range hg]
      show _ = some (P.getD g 0)
      rw [List.getD_eq_getElem?_getD, List.getElem?_eq_getElem (by omega)]; rfl
    · rw [List.getElem?_eq_none (by omega), List.getElem?_eq_none (by simp; omega)]
  rw [Bool.eq_iff_iff]
  unfold refBal balB
  rw [Bool.and_eq_true, Bool.and_eq_true, List.all_eq_true, List.all_eq_true, List.all_eq_true, hB, hl]
  have h1 : ∀ i, i < n → (rowB B V P L k i = true ↔ lineOk B V P L i = true) := fun i hi => by
    unfold rowB lineOk
    rw [Bool.and_eq_true, Bool.and_eq_true, sums3_iff hk (rowQ_map (hr i hi)), hl, decide_eq_true_iff, sumF_Q, List.all_eq_true, List.all_eq_true, and_comm]
    refine and_congr_left' ?_
    refine forall_congr' fun g => forall_congr' fun hg => ?_
    have h0 := hnn i g hi (List.mem_range.1 hg)
    unfold cellOk
    rw [decide_eq_true h0, Bool.true_and, Bool.or_eq_true, Bool.or_eq_true, Bool.not_eq_true', decide_eq_false_iff_not, decide_eq_true_iff]
    have h3 : ¬ 0 < (spd L i g).num ↔ spd L i g = 0 := by
      have h4 := Rat.num_nonneg.2 h0
      constructor
      · intro h5; exact Rat.num_eq_zero.1 (by omega)
      · intro h5; rw [h5]; decide
    rw [h3]
  have h2 : (∀ g ∈ List.range k, colB P L n g = true) ↔ decide ((List.range k).map (fun g => sumF (fun i => spd L i g) n) = P) = true := by
    rw [decide_eq_true_iff]
    constructor
    · intro h
      conv => rhs; rw [hP]
      refine List.map_congr_left fun g hg => ?_
      rw [sumF_Q]
      have := h g hg
      unfold colB at this
      exact (sums3_iff hn (f := fun i => spd L i g) rfl).1 this
    · intro h g hg
      unfold colB
      refine (sums3_iff hn (f := fun i => spd L i g) rfl).2 ?_
      rw [← sumF_Q]
      have := congrArg (fun l => l[g]?) (h.trans hP)
      simp only [List.getElem?_map, List.getElem?_range (List.mem_range.1 hg), Option.map_some] at this
      injection this with this
  rw [h2]
  refine and_congr_left' ?_
  exact forall_congr' fun i => forall_congr' fun hi => h1 i (List.mem_range.1 hi)
theorem q20_pr {q : Rat} (h : PrOk q) : Q20 q := by obtain ⟨a, b, c⟩ := h; exact ⟨by omega, b, c⟩
theorem q20_int {b : Int} (h : 0 ≤ b ∧ b ≤ 1048576) : Q20 ((b : Int) : Rat) := by
  refine ⟨by rw [Rat.num_intCast]; exact h.1, by rw [Rat.num_intCast]; exact h.2, by rw [Rat.den_intCast]; decide⟩
set_option maxRecDepth 100000 in
set_option maxHeartbeats 4000000 in
theorem r4balance_any (A : Option Addr) (n c : Nat) (U : Option Addr) (d k cp cs : Nat) (Pa Sa : Option Addr) (B : List Int) (V : List (List Int)) (P : List Rat) (L : List (List Rat)) (w : World) (h : MkIn w A n U k B V) (hP : Fracs w Pa P) (hl : P.length = k) (hok : ∀ q ∈ P, PrOk q)
    (hS : FMat w Sa L) (hL : L.length = n) (hr : ∀ r ∈ L, r.length = k) (hq : ∀ r ∈ L, ∀ q ∈ r, Q20 q) :
    Calls Try.prog 26 #[.agg #[.slice A n c, .slice U n d], .slice Pa k cp, .slice Sa n cs] w fun e w' => e = .returned (.bool (balB B V P L)) ∧ Below w.heap.size w w' := by
  obtain ⟨w1, hw1⟩ : ∃ w1, w1 = w.alloc (.cells #[.slice A n c, .slice U n d] 25) := ⟨_, rfl⟩
  have hb1 : Below w.heap.size w w1 := by rw [hw1]; exact (Below.refl _ _).alloc (Nat.le_refl _) _
  have hM1 : Blk w1 w.heap.size 25 #[.slice A n c, .slice U n d] := by rw [hw1]; exact Blk.new _ _ _ rfl
  obtain ⟨m1, m2, _, _⟩ := hM1.at2
  have hn := h.hn
  have hk := h.hk
  have hrq : ∀ i, i < n → (rowQ L i).length = k := fun i hi => hr _ (List.mem_of_getElem? (rowQ_some (by omega)))
  have hqs : ∀ i g, Q20 (spd L i g) := fun i g => by
    unfold spd
    rcases Nat.lt_or_ge i n with hi | hi
    · exact q20_get (hq _ (List.mem_of_getElem? (rowQ_some (by omega)))) g
    · unfold rowQ
      rw [List.getD_eq_getElem?_getD (l := L), List.getElem?_eq_none (by omega)]
      exact q20_zero
  have hbal := refBal_eq (V := V) h.mkt.hB hn hk hl hrq (fun i g _ _ => Rat.num_nonneg.1 (hqs i g).1)
  have hrowq : ∀ i, i < n → ∀ q ∈ rowQ L i, Q20 q := fun i hi => hq _ (List.mem_of_getElem? (rowQ_some (by omega)))
  have HW := Lib.hid (r4want_any A n c U d k cp Pa B V P w1 (h.below hb1) (hP.below hb1) hl hok)
  have hrs : ∀ i, i < n → L[i]? = some (rowQ L i) := fun i hi => rowQ_some (by omega)
  have H := Lib.hid (And.intro h (And.intro hP (And.intro hl (And.intro hok (And.intro hS (And.intro hL (And.intro hrq (And.intro hqs (And.intro hrowq (And.intro hrs hbal))))))))))
  have H1 := Lib.hid (And.intro hM1 hb1)
  clear h hP hl hok hS hL hr hq hrq hqs hbal hM1 hb1 hrowq hrs
  go_enter Try.func26, Try.ntmps26
  go_wp2_with fail
  rw [← hw1]
  clear hw1
  refine HW.out.mono ?_
  rintro e w2 ⟨Wa, wc, rfl, hat, hb2⟩
  have H2 := Lib.hid (And.intro (H1.out.1.below hb2 H1.out.1.lt) (And.intro (H1.out.2.trans (hb2.mono H1.out.2.size)) hat))
  have hwl2 := (H1.out.1.below hb2 H1.out.1.lt).lt
  clear hb2 hat HW m1 m2
  have hNOr : ∀ i, i < n → rowB B V P L k i = false → Hid (balB B V P L = false) := fun i hi h => Lib.hid (by
    rw [← H.out.2.2.2.2.2.2.2.2.2.2]
    unfold refBal
    rw [Bool.and_eq_false_iff]
    left
    rw [List.all_eq_false]
    exact ⟨i, List.mem_range.2 hi, by simp [h]⟩)
  have hNOc : ∀ g, g < k → colB P L n g = false → Hid (balB B V P L = false) := fun g hg h => Lib.hid (by
    rw [← H.out.2.2.2.2.2.2.2.2.2.2]
    unfold refBal
    rw [Bool.and_eq_false_iff]
    right
    rw [List.all_eq_false]
    exact ⟨g, List.mem_range.2 hg, by simp [h]⟩)
  have HNO := Lib.hid (And.intro hNOr hNOc)
  clear hNOr hNOc
  go_wp2_with fail
  go_loopw [21] (fun iv wx => ∃ i : Nat, i ≤ n ∧ iv = .int .i64 i ∧ (∀ j, j < i → rowB B V P L k j = true) ∧ Below w2.heap.size w2 wx) (fun iv _ => n - (intOf iv).toNat)
  case atStart => exact ⟨0, Nat.zero_le _, rfl, fun j hj => by omega, Below.refl _ _⟩
  case round =>
    obtain ⟨i, hi, rfl, hall, hbl⟩ := hrel
    obtain ⟨wo, rfl⟩ : ∃ wo : World, wo = wr := ⟨_, rfl⟩
    have hbw := H2.out.2.1.trans (hbl.mono H2.out.2.1.size)
    have HR := Lib.hid (And.intro hall (And.intro hbl hbw))
    clear hall hbl hbw
    by_cases hin : i < n
    · obtain ⟨m1, m2, _, _⟩ := (H2.out.1.below HR.out.2.1 hwl2).at2
      obtain ⟨aS, hAS, _, hcS⟩ := (H.out.2.2.2.2.1.below HR.out.2.2).some_ (by rw [H.out.2.2.2.2.2.1]; omega)
      subst hAS
      obtain ⟨A', c', g1, hF⟩ := hcS i _ (H.out.2.2.2.2.2.2.2.2.2.1 i hin)
      rw [H.out.2.2.2.2.2.2.1 i hin] at g1
      obtain ⟨aB, hAB, _, hcB⟩ := (H.out.1.mkt.budgets.below HR.out.2.2).some_ (by rw [H.out.1.mkt.hB]; omega)
      subst hAB
      have hxi : B[i]? = some (B.getD i 0) := by
        rw [List.getD_eq_getElem?_getD, List.getElem?_eq_getElem (by rw [H.out.1.mkt.hB]; exact hin)]; rfl
      have hbb := H.out.1.buds (B.getD i 0) (List.mem_of_getElem? hxi)
      have c1 := hcB i _ hxi
      have HF := Lib.hid hF
      have hrow : rowB B V P L k i = (sums3 (rowQ L i) ((B.getD i 0 : Int) : Rat) && (List.range k).all fun g => (!decide (0 < (spd L i g).num)) || (wantS (rowV V i) P).testBit g) := rfl
      have HROW := Lib.hid hrow
      obtain ⟨b, hb⟩ : ∃ b, b = B.getD i 0 := ⟨_, rfl⟩
      rw [← hb] at c1 HROW hbb
      have l1 : (i : Int) < (n : Int) := by omega
      have l2 : (0 : Int) ≤ (i : Int) := by omega
      clear hcS hF hcB hxi hrow hb
      go_wp2_with fail
      refine (rof_use b _ (by omega)).mono ?_
      rintro e w3 ⟨rfl, hb3⟩
      have HB3 := Lib.hid (And.intro (HR.out.2.1.trans (hb3.mono HR.out.2.1.size)) (And.intro hb3 (HF.out.below hb3)))
      clear hb3
      have hsm := r4sums_any A' k c' (rowQ L i) ((b : Int) : Rat) w3 (H.out.2.2.2.2.2.2.1 i hin) hk HB3.out.2.2 (H.out.2.2.2.2.2.2.2.2.1 i hin) (q20_int (by omega))
      rw [Rat.num_intCast, Rat.den_intCast] at hsm
      have HSM := Lib.hid hsm
      clear hsm m1 m2
      go_wp2_with fail
      refine HSM.out.mono ?_
      rintro e w4 ⟨rfl, hb4⟩
      have HB4 := Lib.hid (And.intro (HB3.out.1.trans (hb4.mono HB3.out.1.size)) (HB3.out.2.2.below hb4))
      clear hb4 HSM
      cases hs : sums3 (rowQ L i) ((b : Int) : Rat) with
      | false =>
        have HN := HNO.out.1 i hin (by rw [HROW.out, hs, Bool.false_and])
        clear hs
        go_wp2_with fail
        go_ret
        exact ⟨ret_bool HN.out.symm, H2.out.2.1.trans (HB4.out.1.mono H2.out.2.1.size)⟩
      | true =>
        rw [hs, Bool.true_and] at HROW
        clear hs c1
        go_wp2_with fail
        go_loopw [37] (fun gv wx => ∃ g : Nat, g ≤ k ∧ gv = .int .i64 g ∧ (∀ x, x < g → ((!decide (0 < (spd L i x).num)) || (wantS (rowV V i) P).testBit x) = true) ∧ Below w4.heap.size w4 wx) (fun gv _ => k - (intOf gv).toNat)
        case atStart => exact ⟨0, Nat.zero_le _, rfl, fun j hj => by omega, Below.refl _ _⟩
        case round =>
          obtain ⟨g, hg, rfl, hall, hbl⟩ := hrel
          obtain ⟨wi, rfl⟩ : ∃ wo : World, wo = wr := ⟨_, rfl⟩
          have HI := Lib.hid (And.intro hall (And.intro hbl (HB4.out.1.trans (hbl.mono HB4.out.1.size))))
          clear hall hbl
          by_cases hgk : g < k
          · obtain ⟨aR, hAR, _, hcR⟩ := (HB4.out.2.below HI.out.2.1).some_ (by rw [H.out.2.2.2.2.2.2.1 i hin]; omega)
            subst hAR
            have hgr : (rowQ L i)[g]? = some (spd L i g) := by
              unfold spd
              rw [List.getD_eq_getElem?_getD, List.getElem?_eq_getElem (by rw [H.out.2.2.2.2.2.2.1 i hin]; exact hgk)]; rfl
            obtain ⟨v1, v2⟩ := hcR g _ hgr
            have hwl : (wantV V P n).length = n := by simp [wantV]
            obtain ⟨aW, hAW, _, hcW⟩ := (At.below H2.out.2.2 HI.out.2.2).some_ (by rw [hwl]; omega)
            subst hAW
            have hgw : (wantV V P n)[i]? = some (.int .i64 ((wantS (rowV V i) P : Nat) : Int)) := by
              unfold wantV
              rw [List.getElem?_map, List.getElem?_range hin]; rfl
            have c3 := hcW i _ hgw
            have hws : wantS (rowV V i) P < 9223372036854775808 := by
              unfold wantS
              have h1 := wTo_lt (rowV V i) P (rowV V i).length
              rw [(rowOk_iff.1 (H.out.1.rows _ (List.mem_of_getElem? (rowV_some (by rw [H.out.1.mkt.hV]; exact hin))))).1] at h1 ⊢
              have h8 : (2 : Nat) ^ k ≤ 8 := by
                have : k = 1 ∨ k = 2 ∨ k = 3 := by omega
                rcases this with rfl | rfl | rfl <;> decide
              omega
            obtain ⟨ws, hwse⟩ : ∃ s, s = wantS (rowV V i) P := ⟨_, rfl⟩
            obtain ⟨q, hqe⟩ : ∃ q, q = spd L i g := ⟨_, rfl⟩
            rw [← hwse] at c3 hws
            rw [← hqe] at v1 v2
            have hbz : Below wi.heap.size wi (wi.alloc (.cells #[.int .i64 q.num, .int .i64 (q.den : Int)] 37)) := (Below.refl _ _).alloc (Nat.le_refl _) _
            have c4 := (hbz.cell (lt_of_cell c3)).trans c3
            have HZ := Lib.hid (And.intro (HI.out.2.1.trans (hbz.mono HI.out.2.1.size)) (And.intro hwse hqe))
            have hbt := and_shr ws g (by omega)
            have l3 : (g : Int) < (k : Int) := by omega
            have l4 : (0 : Int) ≤ (g : Int) := by omega
            clear hcR hgr hcW hgw hwse hqe hbz hwl
            by_cases h0 : 0 < q.num
            · cases htb : ws.testBit g with
              | true =>
                rw [htb] at hbt
                have HT := Lib.hid htb
                have hbt0 : (bits .and .i64 ((ws : Int) / 2 ^ g) 1 == 0) = false := by rw [hbt]; rfl
                have hbt2 : bits .and .i64 ((ws : Int) / 2 ^ g) 1 = 1 := hbt
                clear hbt htb
                go_wp2_with fail
                go_roundw
                case rel => exact ⟨g + 1, by omega, by go_num, fun x hx => by
                  rcases Nat.lt_or_ge x g with h1 | h1
                  · exact HI.out.1 x h1
                  · rw [show x = g by omega, ← HZ.out.2.1, HT.out, Bool.or_true], HZ.out.1⟩
                case measure => simp [intOf]; omega
              | false =>
                rw [htb] at hbt
                have HN := HNO.out.1 i hin (by
                  rw [HROW.out, List.all_eq_false]
                  refine ⟨g, List.mem_range.2 hgk, ?_⟩
                  rw [← HZ.out.2.1, ← HZ.out.2.2, htb, decide_eq_true h0]; decide)
                have hbt0 : (bits .and .i64 ((ws : Int) / 2 ^ g) 1 == 0) = true := by rw [hbt]; rfl
                have hbt2 : bits .and .i64 ((ws : Int) / 2 ^ g) 1 = 0 := hbt
                clear hbt htb
                go_wp2_with fail
                go_ret
                exact ⟨ret_bool HN.out.symm, H2.out.2.1.trans ((HB4.out.1.trans (HZ.out.1.mono HB4.out.1.size)).mono H2.out.2.1.size)⟩
            · clear hbt
              go_wp2_with fail
              go_roundw
              case rel => exact ⟨g + 1, by omega, by go_num, fun x hx => by
                rcases Nat.lt_or_ge x g with h1 | h1
                · exact HI.out.1 x h1
                · rw [show x = g by omega, ← HZ.out.2.2, decide_eq_false h0]; rfl, HZ.out.1⟩
              case measure => simp [intOf]; omega
          · obtain rfl : k = g := by omega
            have HRT : Hid (rowB B V P L k i = true) := Lib.hid (by
              rw [HROW.out, List.all_eq_true]
              exact fun x hx => HI.out.1 x (List.mem_range.1 hx))
            go_wp2_with fail
            go_roundw
            case rel => exact ⟨i + 1, by omega, by go_num, fun x hx => by
              rcases Nat.lt_or_ge x i with h1 | h1
              · exact HR.out.1 x h1
              · rw [show x = i by omega]; exact HRT.out, HI.out.2.2⟩
            case measure => simp [intOf]; omega
    · obtain rfl : n = i := by omega
      go_wp2_with fail
      go_loopw [59] (fun gv wx => ∃ g : Nat, g ≤ k ∧ gv = .int .i64 g ∧ (∀ x, x < g → colB P L n x = true) ∧ Below wo.heap.size wo wx) (fun gv _ => k - (intOf gv).toNat)
      case atStart => exact ⟨0, Nat.zero_le _, rfl, fun j hj => by omega, Below.refl _ _⟩
      case round =>
        obtain ⟨g, hg, rfl, hall, hbl⟩ := hrel
        obtain ⟨wg, rfl⟩ : ∃ wo : World, wo = wr := ⟨_, rfl⟩
        have HG := Lib.hid (And.intro hall (And.intro hbl (HR.out.2.2.trans (hbl.mono HR.out.2.2.size))))
        clear hall hbl
        by_cases hgk : g < k
        · have l3 : (g : Int) < (k : Int) := by omega
          have l4 : (0 : Int) ≤ (g : Int) := by omega
          go_wp2_with fail
          go_loopw [13, 64] (fun ov iv wx => ∃ (i : Nat) (A2 : Option Addr) (c2 : Nat), i ≤ n ∧ iv = .int .i64 i ∧ ov = .slice A2 i c2 ∧ wx.ownsRow wg.heap.size 37 2 (.slice A2 i c2) i (fcells ((List.range i).map fun j => spd L j g)) ∧ Below wg.heap.size wg wx) (fun _ iv _ => n - (intOf iv).toNat)
          case atStart => exact ⟨0, none, 0, Nat.zero_le _, rfl, rfl, World.ownsRow_nil _ _ _ _, Below.refl _ _⟩
          case round =>
            obtain ⟨i, A2, c2, hi, rfl, rfl, hown, hbl⟩ := hrel
            obtain ⟨wi, rfl⟩ : ∃ wo : World, wo = wr := ⟨_, rfl⟩
            have HI := Lib.hid (And.intro hown (And.intro hbl (HG.out.2.2.trans (hbl.mono HG.out.2.2.size))))
            clear hown hbl
            by_cases hin : i < n
            · obtain ⟨aS, hAS, _, hcS⟩ := (H.out.2.2.2.2.1.below HI.out.2.2).some_ (by rw [H.out.2.2.2.2.2.1]; omega)
              subst hAS
              obtain ⟨A', c', g1, hF⟩ := hcS i _ (H.out.2.2.2.2.2.2.2.2.2.1 i hin)
              rw [H.out.2.2.2.2.2.2.1 i hin] at g1
              obtain ⟨aR, rfl, _, hcR⟩ := hF.some_ (by rw [H.out.2.2.2.2.2.2.1 i hin]; omega)
              have hgr : (rowQ L i)[g]? = some (spd L i g) := by
                unfold spd
                rw [List.getD_eq_getElem?_getD, List.getElem?_eq_getElem (by rw [H.out.2.2.2.2.2.2.1 i hin]; exact hgk)]; rfl
              obtain ⟨v1, v2⟩ := hcR g _ hgr
              have hnx : fcells ((List.range (i + 1)).map fun j => spd L j g) = fcells ((List.range i).map fun j => spd L j g) ++ [.int .i64 (spd L i g).num, .int .i64 ((spd L i g).den : Int)] := by
                rw [List.range_succ, List.map_append, List.map_cons, List.map_nil, fcells_snoc]
              have HO := Lib.hid (And.intro HI.out.1 (And.intro HI.out.2.1 hnx))
              have hsz : wg.heap.size ≤ wi.heap.size := HO.out.2.1.size
              have l5 : (i : Int) < (n : Int) := by omega
              clear hcS hF hcR hgr hnx
              generalize hqe : spd L i g = q at *
              clear hqe
              go_wp2_with (at_builtin; refine app1g sty_frac rfl _ _ rfl wg.heap.size A2 i c2 _ #[.int .i64 q.num, .int .i64 (q.den : Int)] rfl (by simp [Value.oneCell']) rfl HO.out.1 _ rfl rfl (by omega) hsz ?_)
              intro A4 k4 w4 hown4 _ hbl4 hk41 hk42
              have HR4 := Lib.hid (And.intro hown4 (HO.out.2.1.trans hbl4))
              clear hown4 hbl4 v1 v2 g1
              go_wp2_with fail
              go_roundw
              case rel => exact ⟨i + 1, A4, k4, by omega, by go_num, rfl, by rw [HO.out.2.2]; exact HR4.out.1, HR4.out.2⟩
              case measure => simp [intOf]; omega
            · obtain rfl : n = i := by omega
              have hFc : Fracs wi A2 (colL4 L n g) := Fracs.of_cells (At.of_own HI.out.1)
              obtain ⟨aP, hAP, _, hcP⟩ := (H.out.2.1.below HI.out.2.2).some_ (by rw [H.out.2.2.1]; omega)
              subst hAP
              have hgp : P[g]? = some (priQ P g) := by
                unfold priQ
                rw [List.getD_eq_getElem?_getD, List.getElem?_eq_getElem (by rw [H.out.2.2.1]; exact hgk)]; rfl
              obtain ⟨v1, v2⟩ := hcP g _ hgp
              have hpo := H.out.2.2.2.1 _ (List.mem_of_getElem? hgp)
              have HSM := Lib.hid (r4sums_any A2 n c2 (colL4 L n g) (priQ P g) wi (by simp [colL4]) hn hFc (fun q hq => by
                obtain ⟨j, _, rfl⟩ := List.mem_map.1 hq
                exact H.out.2.2.2.2.2.2.2.1 j g) (q20_pr hpo))
              clear hFc hcP hgp hpo
              have hcb : colB P L n g = sums3 (colL4 L n g) (priQ P g) := rfl
              have HCB := Lib.hid hcb
              clear hcb
              go_wp2_with fail
              refine HSM.out.mono ?_
              rintro e w4 ⟨rfl, hb4⟩
              have HB4 := Lib.hid (HI.out.2.1.trans (hb4.mono HI.out.2.1.size))
              clear hb4 HSM v1 v2
              cases hs : sums3 (colL4 L n g) (priQ P g) with
              | false =>
                have HN := HNO.out.2 g hgk (by rw [HCB.out, hs])
                clear hs
                go_wp2_with fail
                go_ret
                exact ⟨ret_bool HN.out.symm, HG.out.2.2.trans (HB4.out.mono HG.out.2.2.size)⟩
              | true =>
                rw [hs] at HCB
                clear hs
                go_wp2_with fail
                go_roundw
                case rel => exact ⟨g + 1, by omega, by go_num, fun x hx => by
                  rcases Nat.lt_or_ge x g with h1 | h1
                  · exact HG.out.1 x h1
                  · rw [show x = g by omega]; exact HCB.out, HG.out.2.1.trans (HB4.out.mono HG.out.2.1.size)⟩
                case measure => simp [intOf]; omega
        · obtain rfl : k = g := by omega
          have HT : Hid (balB B V P L = true) := Lib.hid (by
            rw [← H.out.2.2.2.2.2.2.2.2.2.2]
            unfold refBal
            rw [Bool.and_eq_true, List.all_eq_true, List.all_eq_true]
            exact ⟨fun i hi => HR.out.1 i (List.mem_range.1 hi), fun g hg => HG.out.1 g (List.mem_range.1 hg)⟩)
          go_wp2_with fail
          go_ret
          exact ⟨ret_bool HT.out.symm, HG.out.2.2⟩

/- What is spent on each pair, as the reference's solver reckons it: plain Lean. -/

def atX (n k x e : Nat) : Bool := (e / k == x) || (n + e % k == x)
/-- The last pair at a node, and how many there are. -/
def pcTo (n k set x : Nat) : Nat → Nat × Nat
  | 0 => (0, 0)
  | e + 1 => if set.testBit e && atX n k x e then (e, (pcTo n k set x e).2 + 1) else pcTo n k set x e
theorem pc_spec {n k set x : Nat} : ∀ N, ((pcTo n k set x N).2 = 0 → ∀ e, e < N → ¬ (set.testBit e = true ∧ atX n k x e = true)) ∧
    ((pcTo n k set x N).2 = 1 → (pcTo n k set x N).1 < N ∧ set.testBit (pcTo n k set x N).1 = true ∧ atX n k x (pcTo n k set x N).1 = true ∧ ∀ e, e < N → set.testBit e = true → atX n k x e = true → e = (pcTo n k set x N).1)
  | 0 => ⟨fun _ e he => by omega, fun h => by cases h⟩
  | N + 1 => by
    obtain ⟨h1, h2⟩ := pc_spec (n := n) (k := k) (set := set) (x := x) N
    simp only [pcTo]
    by_cases hc : (set.testBit N && atX n k x N) = true
    · rw [if_pos hc]
      rw [Bool.and_eq_true] at hc
      refine ⟨fun h => by simp at h, fun h => ?_⟩
      have h0 := h1 (by simp at h; exact h)
      refine ⟨by simp, hc.1, hc.2, fun e he hb ha => ?_⟩
      rcases Nat.lt_or_ge e N with h3 | h3
      · exact absurd ⟨hb, ha⟩ (h0 e h3)
      · show e = N; omega
    · rw [if_neg hc]
      have hno : ¬ (set.testBit N = true ∧ atX n k x N = true) := fun h => hc (by rw [h.1, h.2]; rfl)
      refine ⟨fun h e he => ?_, fun h => ?_⟩
      · rcases Nat.lt_or_ge e N with h3 | h3
        · exact h1 h e h3
        · rw [show e = N by omega]; exact hno
      · obtain ⟨g1, g2, g3, g4⟩ := h2 h
        refine ⟨by omega, g2, g3, fun e he hb ha => ?_⟩
        rcases Nat.lt_or_ge e N with h3 | h3
        · exact g4 e h3 hb ha
        · rw [show e = N by omega] at hb ha; exact absurd ⟨hb, ha⟩ hno
theorem pc_le {n k set x : Nat} : ∀ N, (pcTo n k set x N).2 ≤ N ∧ (pcTo n k set x N).1 ≤ N
  | 0 => ⟨Nat.le_refl _, Nat.le_refl _⟩
  | N + 1 => by
    have := pc_le (n := n) (k := k) (set := set) (x := x) N
    simp only [pcTo]
    split
    · exact ⟨by show _ + 1 ≤ _; omega, by show N ≤ _; omega⟩
    · omega
/-- The set of pairs while nodes are looked at. -/
def plX (n k set x : Nat) : Nat := if (pcTo n k set x (n * k)).2 = 1 then clr set (pcTo n k set x (n * k)).1 else set
def plI (n k set : Nat) : Nat → Nat
  | 0 => set
  | x + 1 => plX n k (plI n k set x) x
def plR (n k set : Nat) : Nat → Nat
  | 0 => set
  | t + 1 => plI n k (plR n k set t) (n + k)
def plB (n k a N : Nat) : Bool := (List.range N).all fun e => hasCyc n k (a + e) || plR n k (a + e) (n + k) == 0
set_option maxRecDepth 100000 in
theorem plB11 : plB 1 1 0 2 = true := by decide +kernel
set_option maxRecDepth 100000 in
theorem plB12 : plB 1 2 0 4 = true := by decide +kernel
set_option maxRecDepth 100000 in
theorem plB13 : plB 1 3 0 8 = true := by decide +kernel
set_option maxRecDepth 100000 in
theorem plB21 : plB 2 1 0 4 = true := by decide +kernel
set_option maxRecDepth 100000 in
theorem plB22 : plB 2 2 0 16 = true := by decide +kernel
set_option maxRecDepth 100000 in
theorem plB23 : plB 2 3 0 64 = true := by decide +kernel
set_option maxRecDepth 100000 in
theorem plB31 : plB 3 1 0 8 = true := by decide +kernel
set_option maxRecDepth 100000 in
theorem plB32 : plB 3 2 0 64 = true := by decide +kernel
set_option maxRecDepth 100000 in
theorem plB33_0 : plB 3 3 0 128 = true := by decide +kernel
set_option maxRecDepth 100000 in
theorem plB33_1 : plB 3 3 128 128 = true := by decide +kernel
set_option maxRecDepth 100000 in
theorem plB33_2 : plB 3 3 256 128 = true := by decide +kernel
set_option maxRecDepth 100000 in
theorem plB33_3 : plB 3 3 384 128 = true := by decide +kernel
theorem pl_all {n k e : Nat} (hn : 1 ≤ n ∧ n ≤ 3) (hk : 1 ≤ k ∧ k ≤ 3) (he : e < 2 ^ (n * k)) (hc : hasCyc n k e = false) : plR n k e (n + k) = 0 := by
  have key : ∀ a N, plB n k a N = true → a ≤ e → e < a + N → plR n k e (n + k) = 0 := fun a N h h1 h2 => by
    have h3 := List.all_eq_true.1 h (e - a) (List.mem_range.2 (by omega))
    rw [show a + (e - a) = e by omega, hc, Bool.false_or, beq_iff_eq] at h3
    exact h3
  have h1 : n = 1 ∨ n = 2 ∨ n = 3 := by omega
  have h2 : k = 1 ∨ k = 2 ∨ k = 3 := by omega
  rcases h1 with rfl | rfl | rfl <;> rcases h2 with rfl | rfl | rfl
  · exact key _ _ plB11 (Nat.zero_le _) (by simpa using he)
  · exact key _ _ plB12 (Nat.zero_le _) (by simpa using he)
  · exact key _ _ plB13 (Nat.zero_le _) (by simpa using he)
  · exact key _ _ plB21 (Nat.zero_le _) (by simpa using he)
  · exact key _ _ plB22 (Nat.zero_le _) (by simpa using he)
  · exact key _ _ plB23 (Nat.zero_le _) (by simpa using he)
  · exact key _ _ plB31 (Nat.zero_le _) (by simpa using he)
  · exact key _ _ plB32 (Nat.zero_le _) (by simpa using he)
  · have he' : e < 512 := he
    rcases Nat.lt_or_ge e 128 with h | h
    · exact key _ _ plB33_0 (by omega) (by omega)
    rcases Nat.lt_or_ge e 256 with h | h
    · exact key _ _ plB33_1 (by omega) (by omega)
    rcases Nat.lt_or_ge e 384 with h | h
    · exact key _ _ plB33_2 (by omega) (by omega)
    · exact key _ _ plB33_3 (by omega) (by omega)

/- The steps of spent: sizes, and what they come to for a balance. -/

structure SpQ where
  hv : Nat → Rat
  sp : Nat → Nat → Rat
  st : Nat
def othX (n k x p : Nat) : Nat := if x < n then n + p % k else p / k
def spX (n k : Nat) (s : SpQ) (x : Nat) : SpQ := if (pcTo n k s.st x (n * k)).2 = 1 then
    let p := (pcTo n k s.st x (n * k)).1
    ⟨upd (upd s.hv (othX n k x p) (s.hv (othX n k x p) - s.hv x)) x 0, upd2 s.sp (p / k) (p % k) (s.hv x), clr s.st p⟩
  else s
def spI (n k : Nat) (s : SpQ) : Nat → SpQ
  | 0 => s
  | x + 1 => spX n k (spI n k s x) x
def spR (n k : Nat) (s : SpQ) : Nat → SpQ
  | 0 => s
  | t + 1 => spI n k (spR n k s t) (n + k)
def sp0 (n : Nat) (B : List Int) (P : List Rat) (set : Nat) : SpQ := ⟨fun x => if x < n then budQ B x else priQ P (x - n), fun _ _ => 0, set⟩
theorem spI_st (n k : Nat) (s : SpQ) : ∀ x, (spI n k s x).st = plI n k s.st x
  | 0 => rfl
  | x + 1 => by
    simp only [spI, plI]
    rw [← spI_st n k s x]
    unfold spX plX
    split <;> rfl
theorem spR_st (n k : Nat) (s : SpQ) : ∀ t, (spR n k s t).st = plR n k s.st t
  | 0 => rfl
  | t + 1 => by
    simp only [spR, plR]
    rw [spI_st, spR_st n k s t]
theorem sp_ind {n k : Nat} {Pr : SpQ → Prop} (hs : ∀ x s, x < n + k → Pr s → Pr (spX n k s x)) : (∀ s, Pr s → ∀ x, x ≤ n + k → Pr (spI n k s x)) ∧ ∀ s, Pr s → ∀ t, Pr (spR n k s t) := by
  have h1 : ∀ s, Pr s → ∀ x, x ≤ n + k → Pr (spI n k s x) := by
    intro s h x
    induction x with
    | zero => intro _; exact h
    | succ x ih => intro hx; exact hs x _ (by omega) (ih (by omega))
  refine ⟨h1, fun s h t => ?_⟩
  induction t with
  | zero => exact h
  | succ t ih => exact h1 _ ih _ (Nat.le_refl _)
theorem sumQ_upd {f : Nat → Rat} {a : Nat} {v : Rat} : ∀ n, sumQ (upd f a v) n = sumQ f n + if a < n then v - f a else 0
  | 0 => by show (0 : Rat) = 0 + _; rw [if_neg (by omega)]; grind
  | n + 1 => by
    simp only [sumQ]
    rw [sumQ_upd n]
    by_cases e : n = a
    · subst e
      rw [upd_same, if_neg (by omega), if_pos (by omega)]
      grind
    · rw [upd_other _ _ _ e]
      have e2 : (a < n + 1) = (a < n) := propext ⟨fun h => by omega, fun h => by omega⟩
      simp only [e2]
      grind
/-- What a pair at a node is. -/
theorem at_pair {n k x p : Nat} (_ : 1 ≤ k) (hp : p < n * k) (ha : atX n k x p = true) : p / k < n ∧ p % k < k ∧ p / k * k + p % k = p ∧ (x < n → x = p / k) ∧ (n ≤ x → x = n + p % k) ∧ othX n k x p ≠ x ∧ othX n k x p < n + k := by
  have h1 : p / k < n := Nat.div_lt_of_lt_mul (by rw [Nat.mul_comm]; exact hp)
  have h2 : p % k < k := Nat.mod_lt _ (by omega)
  have h3 : p / k * k + p % k = p := by rw [Nat.mul_comm]; exact Nat.div_add_mod p k
  unfold atX at ha
  rw [Bool.or_eq_true, beq_iff_eq, beq_iff_eq] at ha
  unfold othX
  refine ⟨h1, h2, h3, fun h => ?_, fun h => ?_, ?_, ?_⟩
  · rcases ha with h4 | h4 <;> omega
  · rcases ha with h4 | h4 <;> omega
  · split
    · omega
    · omega
  · split <;> omega
/-- All values have one denominator, and their sum does not grow. -/
structure SI (n k : Nat) (T : Int) (s : SpQ) : Prop where
  lt : s.st < 512
  hz : ∀ x, ∃ z : Int, s.hv x = (z : Rat) / (T : Rat)
  m : ∃ m : Nat → Rat, (∀ x, x < n + k → -(m x) ≤ s.hv x ∧ s.hv x ≤ m x) ∧ (∀ x, 0 ≤ m x) ∧ sumQ m (n + k) ≤ 240
  sp : ∀ i g, (s.sp i g).num.natAbs ≤ 288000 ∧ ((s.sp i g).den : Int) ≤ 1200
theorem sz_of {T z : Int} {q : Rat} (hT : 1 ≤ T ∧ T ≤ 1200) (hq : q = (z : Rat) / (T : Rat)) (h1 : -240 ≤ q) (h2 : q ≤ 240) : q.num.natAbs ≤ 288000 ∧ (q.den : Int) ≤ 1200 := by
  have hb := frac_bd (by omega) hq
  have hTp : (0 : Rat) < (T : Rat) := by exact_mod_cast (show (0 : Int) < T by omega)
  have e : (z : Rat) = q * (T : Rat) := by
    rw [hq]
    generalize (z : Rat) = zz
    generalize (T : Rat) = tt at *
    grind
  have n1 := Rat.mul_le_mul_of_nonneg_right h2 (Rat.le_of_lt hTp)
  have n2 := Rat.mul_le_mul_of_nonneg_right h1 (Rat.le_of_lt hTp)
  rw [← e] at n1 n2
  have n1' : ((z : Int) : Rat) ≤ ((240 * T : Int) : Rat) := by rw [Rat.intCast_mul]; exact n1
  have n2' : ((-240 * T : Int) : Rat) ≤ ((z : Int) : Rat) := by rw [Rat.intCast_mul]; exact n2
  have m1 : z ≤ 240 * T := Rat.intCast_le_intCast.1 n1'
  have m2 : -240 * T ≤ z := Rat.intCast_le_intCast.1 n2'
  have h3 : 240 * T ≤ 240 * 1200 := by omega
  omega
theorem SI.hv_sz {n k : Nat} {T : Int} {s : SpQ} (hT : 1 ≤ T ∧ T ≤ 1200) (h : SI n k T s) {x : Nat} (hx : x < n + k) : (s.hv x).num.natAbs ≤ 288000 ∧ ((s.hv x).den : Int) ≤ 1200 := by
  obtain ⟨z, hz⟩ := h.hz x
  obtain ⟨m, m1, m2, m3⟩ := h.m
  have h1 := m1 x hx
  have h2 := sq_le (fun i _ => m2 i) x hx
  exact sz_of hT hz (by grind) (by grind)
theorem SI.step {n k : Nat} {T : Int} {s : SpQ} (hT : 1 ≤ T ∧ T ≤ 1200) (hk : 1 ≤ k) {x : Nat} (hx : x < n + k) (h : SI n k T s) : SI n k T (spX n k s x) := by
  unfold spX
  by_cases hc : (pcTo n k s.st x (n * k)).2 = 1
  · rw [if_pos hc]
    obtain ⟨g1, g2, g3, _⟩ := (pc_spec (n := n) (k := k) (set := s.st) (x := x) (n * k)).2 hc
    obtain ⟨p, hp⟩ : ∃ p, p = (pcTo n k s.st x (n * k)).1 := ⟨_, rfl⟩
    rw [← hp] at g1 g2 g3 ⊢
    obtain ⟨a1, a2, a3, a4, a5, a6, a7⟩ := at_pair hk g1 g3
    obtain ⟨o, ho⟩ : ∃ o, o = othX n k x p := ⟨_, rfl⟩
    rw [← ho] at a6 a7
    dsimp only
    rw [← ho]
    obtain ⟨m, m1, m2, m3⟩ := h.m
    refine ⟨clr_lt h.lt, fun y => ?_, ⟨upd (upd m o (m o + m x)) x 0, fun y hy => ?_, fun y => ?_, ?_⟩, fun i g => ?_⟩
    · by_cases e : y = x
      · subst e
        exact ⟨0, by dsimp only; rw [upd_same]; show (0 : Rat) = 0 / _; rw [Rat.div_def]; grind⟩
      · dsimp only
        rw [upd_other _ _ _ e]
        by_cases e2 : y = o
        · subst e2
          rw [upd_same]
          obtain ⟨z1, hz1⟩ := h.hz y
          obtain ⟨z2, hz2⟩ := h.hz x
          refine ⟨z1 - z2, ?_⟩
          rw [hz1, hz2, Rat.intCast_sub, Rat.div_def, Rat.div_def, Rat.div_def]
          grind
        · rw [upd_other _ _ _ e2]
          exact h.hz y
    · dsimp only
      by_cases e : y = x
      · subst e
        rw [upd_same, upd_same]
        exact ⟨by grind, Rat.le_refl⟩
      · rw [upd_other _ _ _ e, upd_other _ _ _ e]
        by_cases e2 : y = o
        · subst e2
          rw [upd_same, upd_same]
          have h1 := m1 y hy
          have h2 := m1 x hx
          exact ⟨by grind, by grind⟩
        · rw [upd_other _ _ _ e2, upd_other _ _ _ e2]
          exact m1 y hy
    · by_cases e : y = x
      · subst e
        rw [upd_same]; exact Rat.le_refl
      · rw [upd_other _ _ _ e]
        by_cases e2 : y = o
        · subst e2
          rw [upd_same]
          exact Rat.add_nonneg (m2 _) (m2 _)
        · rw [upd_other _ _ _ e2]
          exact m2 y
    · rw [sumQ_upd, if_pos hx, sumQ_upd, if_pos a7, upd_other _ _ _ (fun h => a6 h.symm)]
      grind
    · show ((upd2 s.sp (p / k) (p % k) (s.hv x)) i g).num.natAbs ≤ 288000 ∧ (((upd2 s.sp (p / k) (p % k) (s.hv x)) i g).den : Int) ≤ 1200
      unfold upd2
      split
      · exact h.hv_sz hT hx
      · exact h.sp i g
  · rw [if_neg hc]
    exact h
theorem SI.start {n k : Nat} {T : Int} {B : List Int} {P : List Rat} {set : Nat} (hs : set < 512) (hn : n ≤ 3) (hk : k ≤ 3) (hT : 1 ≤ T) (hb : ∀ b ∈ B, 1 ≤ b ∧ b ≤ 20) (hP : ∀ q ∈ P, (0 ≤ q ∧ q ≤ 60) ∧ ∃ z : Int, q = (z : Rat) / (T : Rat)) : SI n k T (sp0 n B P set) := by
  have hTz : ((T : Int) : Rat) ≠ 0 := rat_ne (by omega)
  have hbd : ∀ i, (0 : Int) ≤ B.getD i 0 ∧ B.getD i 0 ≤ 20 := fun i => by
    rw [List.getD_eq_getElem?_getD]
    cases e : B[i]? with
    | none => decide
    | some b => have := hb b (List.mem_of_getElem? e); simp; omega
  have hbq : ∀ i, 0 ≤ budQ B i ∧ budQ B i ≤ 20 := fun i => by
    unfold budQ
    have := hbd i
    exact ⟨by exact_mod_cast this.1, by exact_mod_cast this.2⟩
  have hpq : ∀ g, (0 ≤ priQ P g ∧ priQ P g ≤ 60) ∧ ∃ z : Int, priQ P g = (z : Rat) / (T : Rat) := fun g => by
    unfold priQ
    rw [List.getD_eq_getElem?_getD]
    cases e : P[g]? with
    | none => rw [Option.getD_none]; exact ⟨⟨Rat.le_refl, by decide⟩, 0, by show (0 : Rat) = 0 / _; rw [Rat.div_def]; grind⟩
    | some q => exact hP q (List.mem_of_getElem? e)
  refine ⟨hs, fun x => ?_, ⟨fun x => if x < n then 20 else 60, fun x hx => ?_, fun x => ?_, ?_⟩, fun i g => (show ((0 : Rat).num.natAbs ≤ 288000 ∧ (((0 : Rat).den : Nat) : Int) ≤ 1200) from by decide)⟩
  · show ∃ z : Int, (if x < n then budQ B x else priQ P (x - n)) = _
    split
    · refine ⟨B.getD x 0 * T, ?_⟩
      unfold budQ
      rw [Rat.intCast_mul]
      generalize ((B.getD x 0 : Int) : Rat) = bb
      generalize (T : Rat) = tt at *
      grind
    · exact (hpq _).2
  · show -(if x < n then (20 : Rat) else 60) ≤ (if x < n then budQ B x else priQ P (x - n)) ∧ (if x < n then budQ B x else priQ P (x - n)) ≤ (if x < n then (20 : Rat) else 60)
    split
    · have := hbq x; exact ⟨by grind, this.2⟩
    · have := (hpq (x - n)).1; exact ⟨by grind, this.2⟩
  · show (0 : Rat) ≤ if x < n then 20 else 60
    split <;> decide
  · have key : ∀ N, N ≤ n + k → sumQ (fun x => if x < n then (20 : Rat) else 60) N ≤ ((20 * (min N n : Nat) + 60 * (N - n : Nat) : Int) : Rat) := by
      intro N
      induction N with
      | zero => intro _; show (0 : Rat) ≤ _; rw [show ((20 * (min 0 n : Nat) + 60 * (0 - n : Nat) : Int)) = 0 by simp]; exact Rat.le_refl
      | succ N ih =>
        intro hN
        simp only [sumQ]
        have h1 := ih (by omega)
        by_cases h2 : N < n
        · rw [if_pos h2]
          have e : (20 * (min (N + 1) n : Nat) + 60 * (N + 1 - n : Nat) : Int) = (20 * (min N n : Nat) + 60 * (N - n : Nat) : Int) + 20 := by omega
          rw [e, Rat.intCast_add]
          have : ((20 : Int) : Rat) = 20 := rfl
          rw [this]
          exact Rat.add_le_add_right.2 h1
        · rw [if_neg h2]
          have e : (20 * (min (N + 1) n : Nat) + 60 * (N + 1 - n : Nat) : Int) = (20 * (min N n : Nat) + 60 * (N - n : Nat) : Int) + 60 := by omega
          rw [e, Rat.intCast_add]
          have : ((60 : Int) : Rat) = 60 := rfl
          rw [this]
          exact Rat.add_le_add_right.2 h1
    refine Rat.le_trans (key _ (Nat.le_refl _)) ?_
    have : (20 * (min (n + k) n : Nat) + 60 * (n + k - n : Nat) : Int) ≤ 240 := by omega
    exact Rat.intCast_le_intCast.2 this

/- For a balance whose pairs form no cycle, spent finds the spendings: plain Lean. -/

def clrB (a N : Nat) : Bool := (List.range N).all fun s => (List.range 9).all fun b => !((a + s).testBit b) || (List.range 9).all fun j => (clr (a + s) b).testBit j == ((a + s).testBit j && j != b)
set_option maxRecDepth 100000 in
theorem clrB0 : clrB 0 128 = true := by decide +kernel
set_option maxRecDepth 100000 in
theorem clrB1 : clrB 128 128 = true := by decide +kernel
set_option maxRecDepth 100000 in
theorem clrB2 : clrB 256 128 = true := by decide +kernel
set_option maxRecDepth 100000 in
theorem clrB3 : clrB 384 128 = true := by decide +kernel
theorem clr_bit {s b j : Nat} (hs : s < 512) (hb : b < 9) (hj : j < 9) (h : s.testBit b = true) : (clr s b).testBit j = (s.testBit j && j != b) := by
  have key : ∀ a, clrB a 128 = true → a ≤ s → s < a + 128 → (clr s b).testBit j = (s.testBit j && j != b) := fun a h0 h1 h2 => by
    have h3 := List.all_eq_true.1 (List.all_eq_true.1 h0 (s - a) (List.mem_range.2 (by omega))) b (List.mem_range.2 hb)
    rw [show a + (s - a) = s by omega, h, Bool.not_true, Bool.false_or] at h3
    have h4 := List.all_eq_true.1 h3 j (List.mem_range.2 hj)
    rwa [beq_iff_eq] at h4
  rcases Nat.lt_or_ge s 128 with h | h
  · exact key 0 clrB0 (by omega) (by omega)
  rcases Nat.lt_or_ge s 256 with h | h
  · exact key 128 clrB1 (by omega) (by omega)
  rcases Nat.lt_or_ge s 384 with h | h
  · exact key 256 clrB2 (by omega) (by omega)
  · exact key 384 clrB3 (by omega) (by omega)
theorem pair_div {k i g : Nat} (hg : g < k) : (i * k + g) / k = i ∧ (i * k + g) % k = g := by
  refine ⟨?_, ?_⟩
  · rw [Nat.mul_comm, Nat.mul_add_div (by omega), Nat.div_eq_of_lt hg]; rfl
  · rw [Nat.mul_comm, Nat.mul_add_mod, Nat.mod_eq_of_lt hg]
theorem pair_lt9 {n k i g : Nat} (hn : n ≤ 3) (hk : k ≤ 3) (hi : i < n) (hg : g < k) : i * k + g < 9 ∧ i * k + g < n * k := by
  have h := idx_lt hi hg
  have h2 : n * k ≤ 3 * 3 := Nat.mul_le_mul hn hk
  exact ⟨by omega, h⟩
/-- What is left at each node is what the balance spends on the pairs that are left. -/
structure EI (n k : Nat) (s : Nat → Nat → Rat) (q : SpQ) : Prop where
  lt : q.st < 512
  r : ∀ i, i < n → q.hv i = sumQ (fun g => ind q.st (i * k + g) * s i g) k
  c : ∀ g, g < k → q.hv (n + g) = sumQ (fun i => ind q.st (i * k + g) * s i g) n
  sp : ∀ i g, i < n → g < k → q.sp i g = (1 - ind q.st (i * k + g)) * s i g
section
variable {n k : Nat} {s : Nat → Nat → Rat} {q : SpQ}
theorem ind_clr {st p j : Nat} (hs : st < 512) (hp : p < 9) (hj : j < 9) (h : st.testBit p = true) : ind (clr st p) j = if j = p then 0 else ind st j := by
  unfold ind
  rw [clr_bit hs hp hj h]
  by_cases e : j = p
  · subst e; rw [if_pos rfl]; simp
  · rw [if_neg e]
    have : (j != p) = true := by simpa using e
    rw [this, Bool.and_true]
theorem EI.step (hn : 1 ≤ n ∧ n ≤ 3) (hk : 1 ≤ k ∧ k ≤ 3) {x : Nat} (hx : x < n + k) (h : EI n k s q) : EI n k s (spX n k q x) := by
  unfold spX
  by_cases hc : (pcTo n k q.st x (n * k)).2 = 1
  · rw [if_pos hc]
    obtain ⟨g1, g2, g3, g4⟩ := (pc_spec (n := n) (k := k) (set := q.st) (x := x) (n * k)).2 hc
    obtain ⟨p, hp⟩ : ∃ p, p = (pcTo n k q.st x (n * k)).1 := ⟨_, rfl⟩
    rw [← hp] at g1 g2 g3 g4 ⊢
    obtain ⟨a1, a2, a3, a4, a5, a6, a7⟩ := at_pair hk.1 g1 g3
    obtain ⟨i, hi⟩ : ∃ i, i = p / k := ⟨_, rfl⟩
    obtain ⟨g, hg⟩ : ∃ g, g = p % k := ⟨_, rfl⟩
    have hoth : othX n k x p = if x < n then n + g else i := by rw [hg, hi]; rfl
    rw [hoth] at a6 a7
    dsimp only
    rw [hoth]
    rw [← hi] at a1 a4
    rw [← hg] at a2 a5
    rw [← hi, ← hg] at a3 ⊢
    have hp9 : p < 9 := by have h2 : n * k ≤ 3 * 3 := Nat.mul_le_mul hn.2 hk.2; omega
    have hsame : ∀ i' g', i' < n → g' < k → i' * k + g' = p → i' = i ∧ g' = g := fun i' g' hi' hg' he => by
      have := pair_div (i := i') hg'
      rw [he] at this
      exact ⟨by rw [hi]; exact this.1.symm, by rw [hg]; exact this.2.symm⟩
    have hbit : ind q.st (i * k + g) = 1 := by unfold ind; rw [a3, g2]; rfl
    have hic : ∀ i' g', i' < n → g' < k → ind (clr q.st p) (i' * k + g') = if i' = i ∧ g' = g then 0 else ind q.st (i' * k + g') := fun i' g' hi' hg' => by
      rw [ind_clr h.lt hp9 (pair_lt9 hn.2 hk.2 hi' hg').1 g2]
      by_cases e : i' = i ∧ g' = g
      · rw [if_pos e, if_pos (by rw [e.1, e.2]; exact a3)]
      · rw [if_neg e, if_neg (fun he => e (hsame i' g' hi' hg' he))]
    -- the value at the node
    have hval : q.hv x = s i g := by
      rcases Nat.lt_or_ge x n with hxn | hxn
      · have hxi := a4 hxn
        subst hxi
        rw [h.r x hxn, sumQ_one a2 fun g' hg' hne => ?_, hbit]
        · grind
        · have : q.st.testBit (x * k + g') = false := by
            cases hb : q.st.testBit (x * k + g') with
            | false => rfl
            | true =>
              have h1 := g4 (x * k + g') (pair_lt9 hn.2 hk.2 hxn hg').2 hb (by unfold atX; rw [(pair_div hg').1]; simp)
              exact absurd (hsame x g' hxn hg' h1).2 hne
          unfold ind
          rw [this]
          show (0 : Rat) * _ = 0
          grind
      · have hxg := a5 hxn
        subst hxg
        rw [h.c g a2, sumQ_one (f := fun i => ind q.st (i * k + g) * s i g) a1 fun i' hi' hne => ?_, hbit]
        · grind
        · have : q.st.testBit (i' * k + g) = false := by
            cases hb : q.st.testBit (i' * k + g) with
            | false => rfl
            | true =>
              have h1 := g4 (i' * k + g) (pair_lt9 hn.2 hk.2 hi' a2).2 hb (by unfold atX; rw [(pair_div a2).2]; simp)
              exact absurd (hsame i' g hi' a2 h1).1 hne
          unfold ind
          rw [this]
          show (0 : Rat) * _ = 0
          grind
    have hR : ∀ i', i' < n → sumQ (fun g' => ind (clr q.st p) (i' * k + g') * s i' g') k = q.hv i' - if i' = i then s i g else 0 := fun i' hi' => by
      rw [h.r i' hi']
      by_cases e : i' = i
      · subst e
        rw [if_pos rfl]
        have e2 : sumQ (fun g' => ind (clr q.st p) (i' * k + g') * s i' g') k = sumQ (upd (fun g' => ind q.st (i' * k + g') * s i' g') g 0) k := sumQ_congr fun g' hg' => by
          rw [hic i' g' hi' hg']
          by_cases e3 : g' = g
          · subst e3
            rw [upd_same, if_pos ⟨rfl, rfl⟩]; grind
          · rw [upd_other _ _ _ e3, if_neg (fun h => e3 h.2)]
        rw [e2, sumQ_upd, if_pos a2, hbit]
        grind
      · rw [if_neg e]
        have e2 : sumQ (fun g' => ind (clr q.st p) (i' * k + g') * s i' g') k = sumQ (fun g' => ind q.st (i' * k + g') * s i' g') k := sumQ_congr fun g' hg' => by
          rw [hic i' g' hi' hg', if_neg (fun h => e h.1)]
        rw [e2]; grind
    have hC : ∀ g', g' < k → sumQ (fun i' => ind (clr q.st p) (i' * k + g') * s i' g') n = q.hv (n + g') - if g' = g then s i g else 0 := fun g' hg' => by
      rw [h.c g' hg']
      by_cases e : g' = g
      · subst e
        rw [if_pos rfl]
        have e2 : sumQ (fun i' => ind (clr q.st p) (i' * k + g') * s i' g') n = sumQ (upd (fun i' => ind q.st (i' * k + g') * s i' g') i 0) n := sumQ_congr fun i' hi' => by
          rw [hic i' g' hi' hg']
          by_cases e3 : i' = i
          · subst e3
            rw [upd_same, if_pos ⟨rfl, rfl⟩]; grind
          · rw [upd_other _ _ _ e3, if_neg (fun h => e3 h.1)]
        rw [e2, sumQ_upd, if_pos a1, hbit]
        grind
      · rw [if_neg e]
        have e2 : sumQ (fun i' => ind (clr q.st p) (i' * k + g') * s i' g') n = sumQ (fun i' => ind q.st (i' * k + g') * s i' g') n := sumQ_congr fun i' hi' => by
          rw [hic i' g' hi' hg', if_neg (fun h => e h.2)]
        rw [e2]; grind
    refine ⟨clr_lt h.lt, fun i' hi' => ?_, fun g' hg' => ?_, fun i' g' hi' hg' => ?_⟩
    · dsimp only
      rw [hR i' hi']
      by_cases hxn : x < n
      · have hxi := a4 hxn
        simp only [if_pos hxn]
        by_cases e : i' = x
        · rw [e, upd_same, if_pos hxi, hval]; grind
        · rw [upd_other _ _ _ e, upd_other _ _ _ (by omega), if_neg (by omega)]; grind
      · simp only [if_neg hxn]
        rw [upd_other _ _ _ (by omega)]
        by_cases e : i' = i
        · subst e
          rw [upd_same, if_pos rfl, hval]
        · rw [upd_other _ _ _ e, if_neg e]; grind
    · dsimp only
      rw [hC g' hg']
      by_cases hxn : x < n
      · simp only [if_pos hxn]
        rw [upd_other _ _ _ (by omega)]
        by_cases e : g' = g
        · subst e
          rw [upd_same, if_pos rfl, hval]
        · rw [upd_other _ _ _ (by omega), if_neg e]; grind
      · have hxg := a5 (by omega)
        simp only [if_neg hxn]
        by_cases e : g' = g
        · subst e
          rw [← hxg, upd_same, if_pos rfl, hval]; grind
        · rw [upd_other _ _ _ (by omega), upd_other _ _ _ (by omega), if_neg e]; grind
    · show (upd2 q.sp i g (q.hv x)) i' g' = _
      dsimp only
      rw [hic i' g' hi' hg']
      unfold upd2
      by_cases e : i' = i ∧ g' = g
      · rw [if_pos e, if_pos e, hval, e.1, e.2]; grind
      · rw [if_neg e, if_neg e]
        exact h.sp i' g' hi' hg'
  · rw [if_neg hc]
    exact h
end
theorem EI.start {B : List Int} {P : List Rat} {n k e : Nat} {s : Nat → Nat → Rat} {p : Nat → Rat} {u : Nat → Nat → Rat} (he : e < 512) (hE : Equi n k (budQ B) u p s) (hm : MaskOf n k s e) (hP : ∀ g, g < k → priQ P g = p g) : EI n k s (sp0 n B P e) := by
  have hi : ∀ i g, i < n → g < k → ind e (i * k + g) * s i g = s i g := fun i g hi hg => by
    unfold ind
    by_cases h0 : s i g = 0
    · rw [h0]; grind
    · rw [if_pos ((hm i g hi hg).2 h0)]; grind
  refine ⟨he, fun i hi' => ?_, fun g hg' => ?_, fun i g hi' hg' => ?_⟩
  · show (if i < n then budQ B i else _) = _
    rw [if_pos hi', ← hE.row i hi']
    exact (sumQ_congr fun g hg => hi i g hi' hg).symm
  · show (if n + g < n then _ else priQ P (n + g - n)) = _
    rw [if_neg (by omega), show n + g - n = g by omega, hP g hg', ← hE.col g hg']
    exact (sumQ_congr fun i hi2 => hi i g hi2 hg').symm
  · show (0 : Rat) = _
    have := hi i g hi' hg'
    show (0 : Rat) = (1 - ind e (i * k + g)) * s i g
    grind
/-- What spent returns, row by row. -/
def spF (n k : Nat) (B : List Int) (P : List Rat) (set : Nat) : SpQ := spR n k (sp0 n B P set) (n + k)
def spM (n k : Nat) (q : SpQ) : List (List Rat) := (List.range n).map fun i => (List.range k).map fun g => q.sp i g
theorem spF_equi {B : List Int} {P : List Rat} {n k e : Nat} {s : Nat → Nat → Rat} {p : Nat → Rat} {u : Nat → Nat → Rat} (hn : 1 ≤ n ∧ n ≤ 3) (hk : 1 ≤ k ∧ k ≤ 3) (he : e < 2 ^ (n * k)) (hc : hasCyc n k e = false) (hE : Equi n k (budQ B) u p s) (hm : MaskOf n k s e) (hP : ∀ g, g < k → priQ P g = p g) :
    (spF n k B P e).st = 0 ∧ ∀ i g, i < n → g < k → (spF n k B P e).sp i g = s i g := by
  have he5 : e < 512 := by
    have h2 : n * k ≤ 3 * 3 := Nat.mul_le_mul hn.2 hk.2
    have : 2 ^ (n * k) ≤ 2 ^ 9 := Nat.pow_le_pow_right (by omega) h2
    have h3 : (2 : Nat) ^ 9 = 512 := by decide
    omega
  have h0 : (spF n k B P e).st = 0 := by
    unfold spF
    rw [spR_st]
    exact pl_all hn hk he hc
  refine ⟨h0, fun i g hi hg => ?_⟩
  have h1 := (sp_ind (n := n) (k := k) (Pr := EI n k s) fun x q hx h => h.step hn hk hx).2 _ (EI.start he5 hE hm hP) (n + k)
  have h2 := h1.sp i g hi hg
  show (spR n k (sp0 n B P e) (n + k)).sp i g = _
  rw [h2]
  have h3 : (spR n k (sp0 n B P e) (n + k)).st = 0 := h0
  rw [h3]
  unfold ind
  simp
  grind
theorem spF_sz {B : List Int} {P : List Rat} {n k set : Nat} {T : Int} (hs : set < 512) (hn : 1 ≤ n ∧ n ≤ 3) (hk : 1 ≤ k ∧ k ≤ 3) (hT : 1 ≤ T ∧ T ≤ 1200) (hb : ∀ b ∈ B, 1 ≤ b ∧ b ≤ 20) (hP : ∀ q ∈ P, (0 ≤ q ∧ q ≤ 60) ∧ ∃ z : Int, q = (z : Rat) / (T : Rat)) : (∀ t x, x ≤ n + k → SI n k T (spI n k (spR n k (sp0 n B P set) t) x)) ∧ ∀ t, SI n k T (spR n k (sp0 n B P set) t) := by
  have h := sp_ind (n := n) (k := k) (Pr := SI n k T) fun x q hx h => h.step hT hk.1 hx
  have h0 := SI.start (B := B) (P := P) hs hn.2 hk.2 hT.1 hb hP
  exact ⟨fun t x hx => h.1 _ (h.2 _ h0 t) x hx, h.2 _ h0⟩

/- A region that draws its order: first operations that read, in whatever order, then, waiting for all of them, a few in one forced order (a store ..). No program. -/

theorem wp_region_drew_tail {P : Program} {id : Nat} {Q : Exit → Act → World → Prop} {a : Act} {w : World} {l : List Oper} (n : Nat) (hm : P.follows .mixedOrders = true) (hB : Region.lexTailB .any l.toArray n = true)
    (h : wpQuiet P l.toArray (fun w' => ∃ n, w' = w.drewN n) (fun a' => ∀ w', (∃ n, w' = w.drewN n) → wpList P l.toArray Q (l.drop n) a' w') (l.take n) a) : (Code.region id l.toArray true).wp P Q a w := by
  simp only [Region.lexTailB, Bool.and_eq_true, decide_eq_true_eq] at hB
  obtain ⟨⟨⟨⟨hsel, hn⟩, hs⟩, hc⟩, hlex⟩ := hB
  have hn' : n < l.length := by simpa using hn
  have htl : (l.take n).length = n := by simp; omega
  have hdl : (l.drop n).length = l.toArray.size - n := by simp
  have inv0 : HeadInv .any l.toArray n (Array.replicate l.toArray.size false) :=
    ⟨by simp, fun j oj _ hl => (by rw [getD_replicate_false] at hl; cases hl), fun t _ ht => getD_in (by simpa using ht) (getD_replicate_false _ _)⟩
  have H := heads_lex (C := fun w' => ∃ n, w' = w.drewN n) (md := .any) (g := l.toArray.size - n) hsel hs hc hn (l.take n) 0 _ a (fun j hj => by
    rw [htl] at hj
    simp [hj]) (by simpa using htl) inv0 (by rw [htl]; exact hlex) h
  refine wp_region_any hm ?_
  have := any_of_heads (Q' := Q) (g := l.toArray.size - n) (fun listed a' w' hw' hL => by
    have := wpAny_of_seq (md := .any) (Q' := Q) (l.drop n) n listed a' w' (fun j => by simp [List.getElem?_drop]) (by rw [hdl]; exact hL.1) (hL.2 w' hw')
    rwa [hdl] at this) _ _ _ { w with drawn := w.drawn + 1 } ⟨1, rfl⟩ H
  rw [htl, show n + (l.toArray.size - n) = l.toArray.size from by omega] at this
  exact this

/- The memory of spent. -/

/-- make([][]Frac, n). -/
theorem make_fracss4 (n : Nat) (hn : n ≤ 1000000) (w : World) : (Instr.makeSlice 43 (.int .i64 n) (.int .i64 n)).run Try.prog w = .ok (.slice (some ⟨w.heap.size, 0, none⟩) n n) (w.alloc (.cells (Array.replicate n (Value.slice none 0 0)) 26)) := by
  obtain ⟨i0, hi, hz0, hz1, hz2⟩ := info_parts info_fracs
  have hr := run_make (P := Try.prog) w 43 26 i0 (.slice none 0 0) Try.underlying43 hi hz0 .i64 .i64 n n (by omega) (by omega) (by rw [hz2]; omega) (by omega)
  simp only [Int.toNat_natCast, hz1] at hr
  rw [hr]
  have e : madeCells (Value.slice none 0 0).cells (n * 1) = Array.replicate n (Value.slice none 0 0) := by
    apply Array.ext'
    show (madeCells #[Value.slice none 0 0] (n * 1)).toList = _
    rw [toList_madeCells_one]; simp
  rw [e]
/-- A block that begins with these fractions. -/
def FwB (w : World) (g m : Nat) (qs : List Rat) : Prop := ∃ cur, Blk w g 37 cur ∧ cur.toList.take (m * 2) = pcells (qs.map pr)
section
variable {w w' : World} {g m : Nat} {qs : List Rat}
theorem FwB.lt (h : FwB w g m qs) : g < w.heap.size := by obtain ⟨cur, h, _⟩ := h; exact h.lt
theorem FwB.below {B : Nat} (h : FwB w g m qs) (hb : Below B w w') (hg : g < B) : FwB w' g m qs := by obtain ⟨cur, h1, h2⟩ := h; exact ⟨cur, h1.below hb hg, h2⟩
theorem FwB.kept {B : Nat} {S : List Nat} (h : FwB w g m qs) (hb : Kept B S w w') (hg : g < B) (hn : g ∉ S) : FwB w' g m qs := by obtain ⟨cur, h1, h2⟩ := h; exact ⟨cur, h1.kept hb hg hn, h2⟩
theorem FwB.frozen (h : FwB w g m qs) (i : Nat) : w.frozen? ⟨g, i, none⟩ = false := by obtain ⟨cur, h, _⟩ := h; exact h.frozen i
theorem FwB.far (h : FwB w g m qs) {p : Addr} (hp : g ≠ p.block) (u : Value) : FwB (w.setCell p u) g m qs := by obtain ⟨cur, h1, h2⟩ := h; exact ⟨cur, h1.far hp u, h2⟩
theorem FwB.read (h : FwB w g m qs) {k : Nat} {q : Rat} (hq : qs[k]? = some q) : w.cell? ⟨g, k * 2, none⟩ = some (.int .i64 q.num) ∧ w.cell? ⟨g, k * 2 + 1, none⟩ = some (.int .i64 (q.den : Int)) := by
  obtain ⟨cur, hB, ht⟩ := h
  have hp := pcells_get (qs.map pr) k
  rw [List.getElem?_map, hq] at hp
  have key : ∀ j v, (pcells (qs.map pr))[j]? = some v → w.cell? ⟨g, j, none⟩ = some v := fun j v hv => by
    rw [hB.cell, ← Array.getElem?_toList]
    rw [← ht, List.getElem?_take] at hv
    split at hv
    · exact hv
    · cases hv
  exact ⟨key _ _ hp.1, key _ _ hp.2⟩
theorem FwB.set_ (h : FwB w g m qs) (k : Nat) (q : Rat) : FwB ((w.setCell ⟨g, k * 2, none⟩ (.int .i64 q.num)).setCell ⟨g, k * 2 + 1, none⟩ (.int .i64 (q.den : Int))) g m (qs.set k q) := by
  obtain ⟨cur, hB, ht⟩ := h
  refine ⟨_, (hB.set_ (k * 2) (.int .i64 q.num)).set_ (k * 2 + 1) (.int .i64 (q.den : Int)), ?_⟩
  rw [Array.toList_setIfInBounds, Array.toList_setIfInBounds, List.take_set, List.take_set, ht, pcells_set, List.map_set]
  rfl
theorem fwB_own {base c : Nat} {A : Option Addr} (h : w.ownsRow base 37 2 (.slice A m c) m (fcells qs)) (hm : 0 < m) : ∃ g, A = some ⟨g, 0, none⟩ ∧ base ≤ g ∧ FwB w g m qs := by
  rcases h.2 with ⟨h0, h1⟩ | ⟨g, cap', cur, hv, hb, hg, _, _, hsz, ht⟩
  · injection h0 with _ e2 _
    omega
  · injection hv with e1 _ e3
    subst e1
    refine ⟨g, rfl, hb, cur, hg, ?_⟩
    rw [pcells_fr]
    exact ht
end
/-- The list of what is left. -/
def hvL (n k : Nat) (hv : Nat → Rat) : List Rat := (List.range (n + k)).map hv
theorem hvL_get {n k x : Nat} {hv : Nat → Rat} (hx : x < n + k) : (hvL n k hv)[x]? = some (hv x) := by
  unfold hvL
  rw [List.getElem?_map, List.getElem?_range hx]; rfl
theorem hvL_set {n k x : Nat} {hv : Nat → Rat} {v : Rat} (_ : x < n + k) : (hvL n k hv).set x v = hvL n k (upd hv x v) := by
  apply List.ext_getElem?
  intro i
  rw [List.getElem?_set]
  by_cases e : x = i
  · subst e
    by_cases h : x < n + k
    · rw [if_pos rfl, if_pos (by simp [hvL]; exact h), hvL_get h, upd_same]
    · omega
  · rw [if_neg e]
    by_cases h : i < n + k
    · rw [hvL_get h, hvL_get h, upd_other _ _ _ (fun h => e h.symm)]
    · rw [List.getElem?_eq_none (by simp [hvL]; omega), List.getElem?_eq_none (by simp [hvL]; omega)]
/-- A row of what is spent. -/
def rwL (k : Nat) (f : Nat → Rat) : List (Int × Int) := (List.range k).map fun g => pr (f g)
theorem rwL_get {k g : Nat} {f : Nat → Rat} (hg : g < k) : (rwL k f)[g]? = some ((f g).num, ((f g).den : Int)) := by
  unfold rwL
  rw [List.getElem?_map, List.getElem?_range hg]; rfl
theorem rwL_set {k g : Nat} {f : Nat → Rat} {v : Rat} (_ : g < k) : (rwL k f).set g (v.num, (v.den : Int)) = rwL k (upd f g v) := by
  apply List.ext_getElem?
  intro i
  rw [List.getElem?_set]
  by_cases e : g = i
  · subst e
    by_cases h : g < k
    · rw [if_pos rfl, if_pos (by simp [rwL]; exact h), rwL_get h, upd_same]
    · omega
  · rw [if_neg e]
    by_cases h : i < k
    · rw [rwL_get h, rwL_get h, upd_other _ _ _ (fun h => e h.symm)]
    · rw [List.getElem?_eq_none (by simp [rwL]; omega), List.getElem?_eq_none (by simp [rwL]; omega)]
/-- The rows while they are made and written. -/
structure SpM (wx : World) (gO n k i : Nat) (rb : Nat → Nat) (f : Nat → Nat → Rat) : Prop where
  out : Blk wx gO 26 (sbC n k i rb)
  rows : ∀ j, j < i → PrB wx (rb j) 37 (rwL k (f j))
  inj : ∀ j j', j < i → j' < i → rb j = rb j' → j = j'
section
variable {w w' : World} {gO n k i : Nat} {rb : Nat → Nat} {f : Nat → Nat → Rat}
theorem SpM.kept {B : Nat} {S : List Nat} (h : SpM w gO n k i rb f) (hk : Kept B S w w') (hB : w.heap.size ≤ B) (h1 : gO ∉ S) (h2 : ∀ j, j < i → rb j ∉ S) : SpM w' gO n k i rb f :=
  ⟨h.out.kept hk (by have := h.out.lt; omega) h1, fun j hj => (h.rows j hj).kept hk (by have := (h.rows j hj).lt; omega) (h2 j hj), h.inj⟩
theorem SpM.below (h : SpM w gO n k i rb f) (hb : Below w.heap.size w w') : SpM w' gO n k i rb f := h.kept (Kept.of_below hb []) (Nat.le_refl _) (by simp) (fun j _ => by simp)
theorem SpM.write (h : SpM w gO n k i rb f) {a g : Nat} (ha : a < i) (hg : g < k) (v : Rat) : SpM ((w.setCell ⟨rb a, g * 2, none⟩ (.int .i64 v.num)).setCell ⟨rb a, g * 2 + 1, none⟩ (.int .i64 (v.den : Int))) gO n k i rb (upd2 f a g v) := by
  have hO : gO ≠ rb a := h.out.ne_ (h.rows a ha) (by decide)
  refine ⟨(h.out.far (p := ⟨rb a, g * 2, none⟩) hO _).far (p := ⟨rb a, g * 2 + 1, none⟩) hO _, fun j hj => ?_, h.inj⟩
  by_cases e : j = a
  · subst e
    have h1 := (h.rows j hj).set_ g v.num v.den
    rw [rwL_set hg] at h1
    have e2 : upd (f j) g v = upd2 f j g v j := by
      funext x
      unfold upd upd2
      by_cases ex : x = g
      · rw [if_pos ex, if_pos ⟨rfl, ex⟩]
      · rw [if_neg ex, if_neg (fun h => ex h.2)]
    rw [e2] at h1
    exact h1
  · have hne : rb j ≠ rb a := fun he => e (h.inj j a hj ha he)
    have e2 : upd2 f a g v j = f j := by
      funext x
      unfold upd2
      rw [if_neg (fun h => e h.1)]
    rw [e2]
    exact ((h.rows j hj).far (p := ⟨rb a, g * 2, none⟩) hne _).far (p := ⟨rb a, g * 2 + 1, none⟩) hne _
theorem SpM.fmat (h : SpM w gO n k n rb f) : FMat w (some ⟨gO, 0, none⟩) ((List.range n).map fun i => (List.range k).map fun g => f i g) := by
  intro j r hj
  have hjn : j < n := by have := (List.getElem?_eq_some_iff.1 hj).1; simpa using this
  rw [List.getElem?_map, List.getElem?_range hjn] at hj
  injection hj with hj
  subst hj
  refine ⟨⟨gO, 0, none⟩, some ⟨rb j, 0, none⟩, k, rfl, ?_, ?_⟩
  · have ea : (⟨gO, 0, none⟩ : Addr).add j = ⟨gO, j, none⟩ := by simp [Addr.add]; omega
    rw [ea, h.out.cell, sbC_get hjn, if_pos hjn]
    simp
  · have h1 := (h.rows j hjn).prs
    have e : rwL k (f j) = ((List.range k).map fun g => f j g).map pr := by
      unfold rwL
      rw [List.map_map]; rfl
    rw [e] at h1
    exact h1
end
end Go.Proofs.Ytnljnjnmhbkdoaa
