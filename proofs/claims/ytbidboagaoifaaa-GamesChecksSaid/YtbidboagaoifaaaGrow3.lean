/- Contract: the inner function of orders, whole. -/
import Derived.Test.YtbidboagaoifaaaGrow2
import Derived.Test.YtbidboagaoifaaaApp
namespace Go.Proofs.Ytbidboagaoifaaa
open Go.RowKit

theorem GX.fix.drewN {X : GX} {w : World} (h : X.fix w) (n : Nat) : X.fix (w.drewN n) := ⟨h.size, h.bcb, h.bfb, h.bg, h.bk, h.bs, h.hc⟩
theorem GX.acc.drewN {X : GX} {cnt : Int} {sums : List Int} {w : World} (h : X.acc cnt sums w) (n : Nat) : X.acc cnt sums (w.drewN n) := ⟨h.bc, h.bS, h.c0, h.sl, h.sb⟩
theorem GX.pre.drewN {X : GX} {pre : List Nat} {w : World} (h : X.pre pre w) (n : Nat) : X.pre pre (w.drewN n) := h

/-- The loop's relation. -/
structure GX.rel (X : GX) (pre : List Nat) (m : Nat) (cnt : Int) (sums : List Int) (w : World) (i : Nat) (wr : World) : Prop where
  acc : X.acc (cnt + (extTo X.n m pre i).length) (addAll X.c X.n sums (extTo X.n m pre i)) wr
  pre : X.pre pre wr
  kept : Kept X.base [X.Bo, X.Bc, X.S] w wr

theorem mem_nats (pre : List Nat) (i : Nat) : has (pre.map Int.ofNat) (i : Int) = decide (i ∈ pre) := by
  unfold has
  rw [decide_eq_decide, List.mem_map]
  constructor
  · rintro ⟨x, hx, h⟩
    obtain rfl : x = i := by have h2 : (x : Int) = (i : Int) := h; omega
    exact hx
  · intro h; exact ⟨i, h, rfl⟩
theorem nats_ints (pre : List Nat) : nats pre = (pre.map Int.ofNat).map (Value.int .i64) := by simp [nats]

set_option maxHeartbeats 1600000 in
theorem grow_any (X : GX) (hx : X.ok) (m : Nat) : ∀ (pre : List Nat) (cnt : Int) (sums : List Int) (w : World), pre.length + m = X.n → (∀ x ∈ pre, x < X.n) → X.fix w → X.acc cnt sums w → X.pre pre w → cnt + (ext X.n m pre).length ≤ 1000 →
    Calls Try.prog 85 #[.pointer (some ⟨X.Bo, 0, none⟩), .pointer (some ⟨X.Bcb, 0, none⟩), .pointer (some ⟨X.Bfb, 0, none⟩), .pointer (some ⟨X.Bg, 0, none⟩)] w fun e w' =>
      e = .returned (.tuple #[]) ∧ X.post pre cnt sums (ext X.n m pre) w w' := by
  induction m with
  | zero =>
    intro pre cnt sums w hpl hpn hf ha hp hcnt
    exact grow_full X hx pre cnt sums w (by omega) hpn hf ha hp (by simp [ext] at hcnt; omega)
  | succ m ih =>
    intro pre cnt sums w hpl hpn hf ha hp hcnt
    have IH := Lib.hid ih
    have hne : ((pre.length : Int) == (X.n : Int)) = false := by simp; omega
    obtain ⟨A, k, hbo, hown, hk1, hk2⟩ := hp
    obtain ⟨o1, o2⟩ := hbo.at1
    obtain ⟨q1, q2⟩ := hf.bcb.at1
    have hn4 := hx.hn
    have hn0 := hx.hn0
    have HNP := Lib.hid hx.np
    have HH := Lib.hid (And.intro hx (And.intro hf (And.intro ha (And.intro hown (And.intro hpn (And.intro hcnt hbo))))))
    have HPL := Lib.hid hpl
    clear hx hf ha hown hpn hpl hbo ih hcnt
    go_enter Try.func85, Try.ntmps85
    go_wp2_with fail
    go_quiet ((go_at_call 57; exact players_q _ _ _ _ _ _ HNP.out))
    go_wp2_with fail
    refine (players_any _ _ _ _ _ HNP.out).mono ?_
    rintro e w' ⟨rfl, rfl⟩
    go_wp2_with fail
    go_loopw [15] (fun iv wr => ∃ i : Nat, i ≤ X.n ∧ iv = .int .i64 i ∧ X.rel pre m cnt sums w i wr) (fun iv _ => X.n - (intOf iv).toNat)
    case atStart =>
      obtain ⟨hx, hf, ha, hown, hpn, hcnt, hbo⟩ := HH.out
      exact ⟨0, Nat.zero_le _, rfl, ⟨by simpa [extTo, addAll] using ha.drewN nq, ⟨A, k, hbo, hown, hk1, hk2⟩, (Kept.refl _ _ _).drewN _⟩⟩
    case round =>
      obtain ⟨i, hin, rfl, hR⟩ := hrel
      obtain ⟨hx, hf, ha, hown, hpn, hcnt, hbo⟩ := HH.out
      have HF := Lib.hid (hf.kept hx hR.kept)
      obtain ⟨A2, k2, hbo2, hown2, hk21, hk22⟩ := hR.pre
      obtain ⟨p1, p2⟩ := hbo2.at1
      have HR := Lib.hid hR
      have HO2 := Lib.hid (And.intro hown2 hbo2)
      clear hx hf ha hown hpn hcnt hbo hR hown2 hbo2
      by_cases hlt : i < X.n
      · by_cases hm : i ∈ pre
        · have HM := Lib.hid hm
          have hmem : has (pre.map Int.ofNat) (i : Int) = true := by rw [mem_nats]; simp [hm]
          clear hm
          go_wp2_with fail
          refine (contains_any A2 pre.length k2 (pre.map Int.ofNat) i _ (by simp) (by omega) (by unfold Ints; rw [← nats_ints]; exact At.of_own HO2.out.1)).mono ?_
          rintro e w' ⟨rfl, rfl⟩
          go_wp2
          go_roundw
          case rel =>
            have hR := HR.out
            exact ⟨i + 1, by omega, by go_num, ⟨by rw [extTo_succ, if_pos HM.out, List.append_nil]; exact hR.acc, hR.pre, hR.kept⟩⟩
          case measure => simp [intOf]; omega
        · have HM := Lib.hid hm
          have hmem : has (pre.map Int.ofNat) (i : Int) = false := by rw [mem_nats]; simp [hm]
          clear hm
          have hpl4 : pre.length ≤ 4 := by have := HPL.out; omega
          go_wp2_with fail
          refine (contains_any A2 pre.length k2 (pre.map Int.ofNat) i _ (by simp) (by omega) (by unfold Ints; rw [← nats_ints]; exact At.of_own HO2.out.1)).mono ?_
          rintro e w' ⟨rfl, rfl⟩
          have hbase := HF.out.size
          go_wp2_with (at_builtin; refine app1 sty_int rfl _ _ rfl X.base A2 pre.length k2 (nats pre) #[.int .i64 (i : Int)] rfl (by simp [Value.oneCell']) rfl HO2.out.1 rfl (by omega) hbase ?_)
          intro A3 k3 w3 hown3 _ hbl3 hk31 hk32
          have hx := HH.out.1
          have hbo3 : Blk w3 X.Bo 22 #[.slice A2 pre.length k2] := HO2.out.2.below hbl3 (hx.lt X.Bo (by simp))
          obtain ⟨s1, s2⟩ := hbo3.at1
          have hf3 : X.fix w3 := HF.out.kept hx (Kept.of_below hbl3 _)
          have hbo4 := hbo3.set_ 0 (.slice A3 (pre.length + 1) k3)
          have hlb := hx.lt X.Bo (by simp)
          have K4 : Kept X.base [X.Bo, X.Bc, X.S] w3 (w3.setCell ⟨X.Bo, 0, none⟩ (.slice A3 (pre.length + 1) k3)) := (Kept.refl _ _ _).setCell (.inl (by simp)) _
          have hf4 := hf3.kept hx K4
          obtain ⟨g1, g2⟩ := hf4.bg.at1
          have K0 : Kept X.base [X.Bo, X.Bc, X.S] w (w3.setCell ⟨X.Bo, 0, none⟩ (.slice A3 (pre.length + 1) k3)) := (HR.out.kept.trans (Kept.of_below hbl3 _)).trans K4
          have hacc : X.acc (cnt + (extTo X.n m pre i).length) (addAll X.c X.n sums (extTo X.n m pre i)) (w3.setCell ⟨X.Bo, 0, none⟩ (.slice A3 (pre.length + 1) k3)) := by
            have h := HR.out.acc
            exact ⟨(h.bc.below hbl3 (hx.lt X.Bc (by simp))).far (by exact fun e => hx.n1 e.symm) _, (h.bS.below hbl3 (hx.lt X.S (by simp))).far (by exact fun e => hx.n2 e.symm) _, h.c0, h.sl, h.sb⟩
          have hpre : X.pre (pre ++ [i]) (w3.setCell ⟨X.Bo, 0, none⟩ (.slice A3 (pre.length + 1) k3)) := by
            refine ⟨A3, k3, ?_, ?_, by simp; omega, hk32⟩
            · simpa using hbo4
            · rw [nats_snoc, List.length_append]
              exact own_setCell hown3 (by exact hlb) _
          have H4 := Lib.hid (And.intro hf4 (And.intro K0 (And.intro hacc hpre)))
          clear hown3 hbl3 hbo3 hf3 hbo4 K4 hf4 K0 hacc hpre hx hbase
          go_wp2_with fail
          obtain ⟨hf4, K0, hacc, hpre⟩ := H4.out
          have hle := extTo_le X.n m pre (i + 1) X.n (by omega)
          rw [extTo_succ, if_neg HM.out, List.length_append] at hle
          refine (IH.out (pre ++ [i]) _ _ _ (by simp; have := HPL.out; omega) (by
            intro x hxm
            rcases List.mem_append.1 hxm with h | h
            · exact HH.out.2.2.2.2.1 x h
            · simp at h; omega) hf4 hacc hpre (by have := HH.out.2.2.2.2.2.1; rw [ext_eq] at this; omega)).mono ?_
          rintro e w5 ⟨rfl, hpost⟩
          clear hf4 K0 hacc hpre hle
          obtain ⟨A6, k6, hbo6, hown6, hk61, hk62⟩ := hpost.pre
          rw [List.length_append, List.length_singleton] at hbo6 hown6 hk61
          rw [nats_snoc] at hown6
          obtain ⟨t1, t2⟩ := hbo6.at1
          have HP := Lib.hid hpost
          have HO6 := Lib.hid (And.intro (own_pop hown6) hbo6)
          clear hown6 hpost hbo6
          go_wp2
          go_roundw
          case rel =>
            have hx := HH.out.1
            have hpo := HP.out
            obtain ⟨hf4, K0, hacc, hpre⟩ := H4.out
            have K5 : Kept X.base [X.Bo, X.Bc, X.S] w5 (w5.setCell ⟨X.Bo, 0, none⟩ (.slice A6 pre.length k6)) := (Kept.refl _ _ _).setCell (.inl (by simp)) _
            have h := hpo.acc
            have e1 : cnt + (extTo X.n m pre (i + 1)).length = cnt + (extTo X.n m pre i).length + (ext X.n m (pre ++ [i])).length := by
              rw [extTo_succ, if_neg HM.out, List.length_append]; omega
            have e2 : addAll X.c X.n sums (extTo X.n m pre (i + 1)) = addAll X.c X.n (addAll X.c X.n sums (extTo X.n m pre i)) (ext X.n m (pre ++ [i])) := by
              rw [extTo_succ, if_neg HM.out, addAll_append]
            refine ⟨i + 1, by omega, by go_num, ⟨?_, ⟨A6, k6, ?_, ?_, by omega, hk62⟩, (K0.trans hpo.kept).trans K5⟩⟩
            · rw [e1, e2]
              exact ⟨h.bc.far (by exact fun e => hx.n1 e.symm) _, h.bS.far (by exact fun e => hx.n2 e.symm) _, h.c0, h.sl, h.sb⟩
            · exact HO6.out.2.set_ 0 _
            · exact own_setCell HO6.out.1 (by exact hx.lt X.Bo (by simp)) _
          case measure => simp [intOf]; omega
      · obtain rfl : i = X.n := by omega
        go_wp2
        go_end0
        have hR := HR.out
        exact ⟨rfl, ⟨by rw [ext_eq]; exact hR.acc, hR.pre, hR.kept⟩⟩
end Go.Proofs.Ytbidboagaoifaaa
