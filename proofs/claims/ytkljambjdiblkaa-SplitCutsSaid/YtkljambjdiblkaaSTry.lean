/- Contract: the inner function of share (package split): it tries all parts for the goods that are left. -/
import Derived.Test.YtkljambjdiblkaaSTry0
namespace Go.Proofs.Ytkljambjdiblkaa
open Go.RowKit

/-- What the inner function leaves: the best is raised to what can be had from here. -/
def SX.post (X : SX) (g u : Nat) (dl s : List Int) (b : Int) (e : Ending) (w' : World) : Prop :=
  e = .returned (.tuple #[]) ∧ ∃ dl' : List Int, (∀ i, i < g → dl'.getD i 0 = dl.getD i 0) ∧ X.st dl' s (max b (sh (X.l.drop g) s u)) w'

set_option maxRecDepth 100000 in
set_option maxHeartbeats 1600000 in
theorem try_full (X : SX) (hx : X.ok) (u : Nat) (dl s : List Int) (b : Int) (w : World) (hst : X.st dl s b w) (hs : s = sumsTo X.l dl X.n X.m) (hd : ∀ i, i < X.m → 0 ≤ dl.getD i 0 ∧ dl.getD i 0 < X.n) :
    Calls Try.prog 92 #[.int .i64 X.m, .int .i64 u, .pointer (some ⟨X.B, 0, none⟩), .pointer (some ⟨X.B + 7, 0, none⟩), .pointer (some ⟨X.B + 2, 0, none⟩), .pointer (some ⟨X.B + 5, 0, none⟩), .pointer (some ⟨X.B + 3, 0, none⟩), .pointer (some ⟨X.B + 1, 0, none⟩), .pointer (some ⟨X.B + 8, 0, none⟩)] w (X.post X.m u dl s b) := by
  have hsh : sh (X.l.drop X.m) s u = lmin s := by rw [List.drop_of_length_le (by rw [hx.hl]; omega)]; rfl
  have hm7 := hx.hm
  have hn7 := hx.hn
  have hsne : s ≠ [] := by intro h; have := hst.sl; rw [h] at this; simp at this; omega
  have hv0 : 0 ≤ lmin s := by
    rw [lmin_mem_ge hsne]
    intro q hq
    rw [hs]
    exact (sumsTo_bd hx.hlb X.m q (by rw [← hst.sl]; exact hq)).1
  have hmem : ∀ x ∈ dl, 0 ≤ x ∧ x < X.n := by
    intro x hxm
    obtain ⟨i, hi, rfl⟩ := List.mem_iff_getElem.1 hxm
    have := hd i (by rw [← hst.dll]; exact hi)
    rwa [List.getD_eq_getElem?_getD, List.getElem?_eq_getElem hi] at this
  have hlm : lmin (sumsTo X.l dl X.n X.m) = lmin s := by rw [← hs]
  obtain ⟨pv, hpv, _⟩ := hst.fnd
  obtain ⟨a1, b1⟩ := hst.bl.at1
  obtain ⟨a2, b2⟩ := hst.bS.at1
  obtain ⟨a3, b3⟩ := hst.bb.at1
  obtain ⟨a4, b4⟩ := hst.bD.at1
  obtain ⟨a5, b5⟩ := hpv.at1
  have H := Lib.hid (And.intro hst (And.intro hsh (And.intro hmem (And.intro hlm hx.hm))))
  have hmm : ((X.m : Int) == (X.m : Int)) = true := by simp
  have hIs : Ints w (some ⟨X.B + 6, 0, none⟩) s := blk_ints hst.bs
  have HIS := Lib.hid (And.intro hIs (And.intro hst.sl (blk_ints hst.bd)))
  obtain ⟨sv, hsv⟩ : ∃ sv, sv = lmin s := ⟨_, rfl⟩
  rw [← hsv] at hv0
  have HSV := Lib.hid hsv
  have hwsz := hst.size
  clear hst hsh hmem hlm hIs hs hd hx hpv hsne hsv
  by_cases hgt : b < sv
  · go_enter Try.func92, Try.ntmps92
    go_wp2_with fail
    refine (min_any _ X.n X.n s _ HIS.out.2.1 (by omega) (by omega) HIS.out.1).mono ?_
    rw [← HSV.out]
    rintro e w1 ⟨rfl, rfl⟩
    go_wp2_with fail
    refine (cloneD_any _ X.m X.m dl _ H.out.1.dll (by omega) HIS.out.2.2).mono ?_
    rintro e w2 ⟨A2, c2, rfl, hown2, hb2⟩
    have hI2 : Ints w2 A2 dl := At.of_own hown2
    obtain ⟨g, rfl, hg, _⟩ := own_some hown2 (by omega)
    obtain ⟨_, _, he2, hc21, hc22, _⟩ := own_form hown2
    injection he2 with e4 _ e5
    subst e4
    subst e5
    have hF := H.out.1.best hb2 hI2 hg hc21 hc22 H.out.2.2.1 (H.out.2.2.2.1.trans HSV.out.symm) hv0
    obtain ⟨pv', hpv', _⟩ := H.out.1.fnd
    have q3 := H.out.1.bb.below hb2 (by omega)
    have q5 := hpv'.below hb2 (by omega)
    obtain ⟨a6, b6⟩ := q3.at1
    obtain ⟨a7, b7⟩ := q5.at1
    have HF := Lib.hid hF
    clear hF hI2 hown2 hb2 hpv' q3 q5 a1 b1 a2 b2 a3 b3 a4 b4 a5 b5
    go_wp2_with fail
    go_end0
    refine ⟨rfl, dl, fun _ _ => rfl, ?_⟩
    rw [H.out.2.1, ← HSV.out, Int.max_eq_right (by omega)]
    exact HF.out
  · go_enter Try.func92, Try.ntmps92
    go_wp2_with fail
    refine (min_any _ X.n X.n s _ HIS.out.2.1 (by omega) (by omega) HIS.out.1).mono ?_
    rw [← HSV.out]
    rintro e w1 ⟨rfl, rfl⟩
    go_wp2_with fail
    go_end0
    refine ⟨rfl, dl, fun _ _ => rfl, ?_⟩
    rw [H.out.2.1, ← HSV.out, Int.max_eq_left (by omega)]
    exact H.out.1
end Go.Proofs.Ytkljambjdiblkaa
