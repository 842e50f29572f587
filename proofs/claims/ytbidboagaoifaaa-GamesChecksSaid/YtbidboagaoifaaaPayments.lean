/- Contract: payments of package games: what each set pays, times payDen. -/
import Derived.Test.YtbidboagaoifaaaScaled
import Derived.Test.YtbidboagaoifaaaFracs
import Derived.Test.YtbidboagaoifaaaMake
import Derived.Test.YtbidboagaoifaaaValid
namespace Go.Proofs.Ytbidboagaoifaaa
open Go.RowKit

/-- The payments times payDen. -/
def payN (ps : List (Int × Int)) : List Int := ps.map (scN PD)
theorem payN_get {ps : List (Int × Int)} {k : Nat} {p : Int × Int} (h : ps[k]? = some p) : (payN ps).getD k 0 = scN PD p := by
  unfold payN; rw [List.getD_eq_getElem?_getD]; simp [h]
/-- What payments leaves. -/
def PayPost (n N : Nat) (ps : List (Int × Int)) (w : World) (e : Ending) (w' : World) : Prop :=
  Below w.heap.size w w' ∧ ((payB n ps = true ∧ ∃ g, e = .returned (.tuple #[.slice (some ⟨g, 0, none⟩) N N, .bool true]) ∧ w.heap.size ≤ g ∧ Blk w' g 3 (arr (payRow (payN ps) n N))) ∨ (payB n ps = false ∧ e = .returned (.tuple #[.slice none 0 0, .bool false])))
theorem payN_bd {ps : List (Int × Int)} (h : ps.all (fun p => scB 24 p.1 p.2) = true) : ∀ x ∈ payN ps, -535422888000000 ≤ x ∧ x ≤ 535422888000000 := by
  intro x hx
  obtain ⟨p, hp, rfl⟩ := List.mem_map.1 hx
  have := scN_bd (D := PD) ((List.all_eq_true.1 h) p hp) (by decide)
  have e : (100000 : Int) * PD = 535422888000000 := by decide
  rw [e] at this
  exact ⟨this.1, this.2.1⟩
theorem payN_take_bd {ps : List (Int × Int)} {k : Nat} (h : (ps.take k).all (fun p => scB 24 p.1 p.2) = true) (s : Nat) : ∀ j, j ≤ k → -(535422888000000 * (j : Int)) ≤ payT (payN ps) j s ∧ payT (payN ps) j s ≤ 535422888000000 * (j : Int) := by
  intro j
  induction j with
  | zero => intro _; simp [payT]
  | succ j ih =>
    intro hj
    have := ih (by omega)
    have e : (535422888000000 : Int) * ((j + 1 : Nat) : Int) = 535422888000000 * (j : Int) + 535422888000000 := by omega
    rw [e]
    have h1 : -535422888000000 ≤ (payN ps).getD j 0 ∧ (payN ps).getD j 0 ≤ 535422888000000 := by
      cases hp : ps[j]? with
      | none =>
        have : (payN ps).getD j 0 = 0 := by unfold payN; rw [List.getD_eq_getElem?_getD]; simp [hp]
        omega
      | some p =>
        rw [payN_get hp]
        have hm : p ∈ ps.take k := List.mem_of_getElem? (i := j) (by rw [List.getElem?_take_of_lt (by omega)]; exact hp)
        exact payN_bd (ps := [p]) (by have := (List.all_eq_true.1 h) p hm; simp [this]) _ (by simp [payN])
    simp only [payT]
    split <;> omega

set_option maxRecDepth 100000 in
set_option maxHeartbeats 1600000 in
theorem payments_any (C : Option Addr) (N capc : Nat) (A : Option Addr) (m cap n : Nat) (ps : List (Int × Int)) (w : World) (h1n : 1 ≤ n) (hn : n ≤ 4) (hN : N = 2 ^ n) (hl : ps.length = m) (hm : m ≤ 9223372036854775807) (h : Prs w A ps)
    (hr : ∀ p ∈ ps, (-9223372036854775808 ≤ p.1 ∧ p.1 ≤ 9223372036854775807) ∧ -9223372036854775808 ≤ p.2 ∧ p.2 ≤ 9223372036854775807) :
    Calls Try.prog 67 #[.slice C N capc, .slice A m cap] w (PayPost n N ps w) := by
  have hnp : N = 2 ∧ n = 1 ∨ N = 4 ∧ n = 2 ∨ N = 8 ∧ n = 3 ∨ N = 16 ∧ n = 4 := by
    subst hN
    match n, h1n, hn with
    | 1, _, _ => simp
    | 2, _, _ => simp
    | 3, _, _ => simp
    | 4, _, _ => simp
  have hN16 : 2 ≤ N ∧ N ≤ 16 := by omega
  have HNP := Lib.hid hnp
  clear hnp hN
  by_cases hmn : m = n
  · have hmk := make_ints N (by omega)
    obtain ⟨ad, rfl, hadw, hc⟩ := h.some_ (by omega)
    have H := Lib.hid (And.intro hl (And.intro hc hr))
    subst hmn
    clear hl hc hr h
    go_enter Try.func67, Try.ntmps67
    go_wp2_with fail
    refine (players_any _ _ m _ _ HNP.out).mono ?_
    rintro e w' ⟨rfl, rfl⟩
    go_wp2_with fail
    go_loopw [4, 21] (fun sv iv wr => ∃ k : Nat, k ≤ m ∧ iv = .int .i64 k ∧ sv = .slice (some ⟨w.heap.size, 0, none⟩) N N ∧ (ps.take k).all (fun p => scB 24 p.1 p.2) = true ∧ Blk wr w.heap.size 3 (arr (payRow (payN ps) k N)) ∧ Below w.heap.size w wr) (fun _ iv _ => m - (intOf iv).toNat)
    case atStart => exact ⟨0, Nat.zero_le _, rfl, rfl, by simp, by rw [payRow_zero]; exact Blk.new _ _ _ rfl, (Below.refl _ _).alloc (Nat.le_refl _) _⟩
    case round =>
      obtain ⟨k, hk, rfl, rfl, ha, hbS, hbl⟩ := hrel
      obtain ⟨wo, rfl⟩ : ∃ wo : World, wo = wr := ⟨_, rfl⟩
      have HA := Lib.hid (And.intro ha (And.intro hbS hbl))
      have hSlt := hbS.lt
      clear ha hbS
      by_cases hlt : k < m
      · obtain ⟨hl, hc, hr⟩ := H.out
        obtain ⟨p, hp⟩ : ∃ p, ps[k]? = some p := ⟨_, List.getElem?_eq_getElem (by omega)⟩
        obtain ⟨g1, g2⟩ := hc k p hp
        have c1 := (hbl.cell (lt_of_cell g1)).trans g1
        have c2 := (hbl.cell (lt_of_cell g2)).trans g2
        obtain ⟨hr1, hr2⟩ := hr p (List.mem_of_getElem? hp)
        obtain ⟨a, b⟩ := p
        have HP := Lib.hid hp
        simp only at c1 c2 hr1 hr2
        clear hl hc hp hr g1 g2 hbl
        cases hs : scB 24 a b
        · have HF : Hid (payB m ps = false) := Lib.hid (payB_elem HP.out hs)
          have HS := Lib.hid hs
          clear hs
          go_wp2_with fail
          refine (scaled_no a b _ 24 _ (by omega) hr1 hr2 HS.out).mono ?_
          rintro e w1 ⟨rfl, hb1⟩
          have HB := Lib.hid ((HA.out.2.2.alloc (Nat.le_of_lt hSlt) _).trans (hb1.mono (by simp; omega)))
          clear hb1
          go_wp2_with fail
          go_ret2
          exact ⟨HB.out, .inr ⟨HF.out, rfl⟩⟩
        · have HS := Lib.hid hs
          have hap := allP_succ HP.out HA.out.1 hs
          have hsn := scN_bd (D := PD) hs (by decide)
          have ePD : (100000 : Int) * PD = 535422888000000 := by decide
          rw [ePD] at hsn
          have hbT := fun s => payN_take_bd HA.out.1 s k (Nat.le_refl _)
          have hbT1 := fun s => payN_take_bd hap s (k + 1) (Nat.le_refl _)
          have hgN := payN_get HP.out
          have hap' := Lib.hid hap
          clear hs ePD hap
          go_wp2_with fail
          refine (scaled_yes a b 5354228880 24 _ (by omega) (by omega) HS.out).mono ?_
          rintro e w1 ⟨rfl, hb1⟩
          rw [PD_eq] at *
          obtain ⟨v, hv⟩ : ∃ v, v = scN PD (a, b) := ⟨_, rfl⟩
          rw [← hv] at hgN hsn ⊢
          have hbS1 : Blk w1 w.heap.size 3 (arr (payRow (payN ps) k N)) := (HA.out.2.1.alloc _).below hb1 (by simp; omega)
          have hbw1 := (HA.out.2.2.alloc (Nat.le_of_lt hSlt) (.cells #[.int .i64 a, .int .i64 b] 31)).trans (hb1.mono (by simp; omega))
          have hS1 := hbS1.lt
          have HT := Lib.hid (And.intro hbT (And.intro hbT1 (And.intro hgN (And.intro hbS1 hbw1))))
          clear hb1 hbS1 hbw1 hbT hbT1 hgN hv c1 c2
          go_wp2_with fail
          go_loopw [35] (fun jv wr => ∃ j : Nat, j ≤ N ∧ jv = .int .i64 j ∧ Blk wr w.heap.size 3 (arr (payMix (payN ps) k j N)) ∧ Below w.heap.size w wr) (fun jv _ => N - (intOf jv).toNat)
          case atStart => exact ⟨0, Nat.zero_le _, rfl, by rw [payMix_zero]; exact HT.out.2.2.2.1, HT.out.2.2.2.2⟩
          case round =>
            obtain ⟨j, hj, rfl, hbS, hbl⟩ := hrel
            by_cases hlj : j < N
            · have hz := payMix_get (ns := payN ps) (k := k) hlj
              have hset := payMix_succ (ns := payN ps) (k := k) hlj
              have ht0 := HT.out.1 j
              have ht1 := HT.out.2.1 j
              have hstep : payT (payN ps) (k + 1) j = payT (payN ps) k j + v * (if j.testBit k then 1 else 0 : Nat) := by
                rw [payT, HT.out.2.2.1]; split <;> rfl
              have hbit := and_shr j k (by omega)
              obtain ⟨z, hzz⟩ : ∃ z, z = payT (payN ps) k j := ⟨_, rfl⟩
              rw [← hzz] at hz ht0 hstep
              obtain ⟨bt, hbt⟩ : ∃ bt : Nat, bt = (if j.testBit k then 1 else 0) := ⟨_, rfl⟩
              have hb1 : bt ≤ 1 := by rw [hbt]; split <;> omega
              rw [← hbt] at hbit hstep
              obtain ⟨z', hz'⟩ : ∃ z', z' = z + v * (bt : Int) := ⟨_, rfl⟩
              rw [hstep, ← hz'] at hset
              have hzb : -5000000000000000 ≤ z' ∧ z' ≤ 5000000000000000 := by
                rw [hz', ← hstep]; omega
              have hvb : -535422888000000 ≤ v * (bt : Int) ∧ v * (bt : Int) ≤ 535422888000000 := by
                have : bt = 0 ∨ bt = 1 := by omega
                rcases this with h | h <;> rw [h] <;> simp <;> omega
              obtain ⟨vb, hvbe⟩ : ∃ vb, vb = v * (bt : Int) := ⟨_, rfl⟩
              rw [← hvbe] at hz' hvb
              have hbit2 : IntKind.i64.wrap ((bt : Int)) = (bt : Int) := IntWalk.i64_in _ (by omega)
              have e1 : IntKind.i64.wrap vb = vb := IntWalk.i64_in _ (by omega)
              have e2 : IntKind.i64.wrap (z + vb) = z' := by rw [← hz']; exact IntWalk.i64_in _ (by omega)
              have e3 : v * (bt : Int) = vb := hvbe.symm
              have c1 : wr.cell? ⟨w.heap.size, j, none⟩ = some (.int .i64 z) := by rw [hbS.cell, arr_get, hz]; rfl
              have f1 : wr.frozen? ⟨w.heap.size, j, none⟩ = false := hbS.frozen j
              have HN := Lib.hid (And.intro hset (And.intro hbS hbl))
              clear hz hset ht0 ht1 hstep hzz hbt hz' hvbe hbS hbl
              go_wp2_with fail
              go_region
              go_wp2_with fail
              go_roundw
              case rel =>
                refine ⟨j + 1, by omega, by go_num, ?_, HN.out.2.2.drew.setCell (Nat.le_refl _) _⟩
                rw [HN.out.1, ← arr_set]
                exact Blk.set_ (w := wr.drew) HN.out.2.1 j _
              case measure => simp [intOf]; omega
            · obtain rfl : N = j := by omega
              rw [payMix_full] at hbS
              have HN := Lib.hid (And.intro hbS hbl)
              clear hbS hbl
              go_wp2_with fail
              go_roundw
              case rel => exact ⟨k + 1, by omega, by go_num, rfl, hap'.out, HN.out.1, HN.out.2⟩
              case measure => simp [intOf]; omega
      · obtain rfl : m = k := by omega
        have HR : Hid (payB m ps = true) := Lib.hid (by rw [payB_all H.out.1 HA.out.1]; simp)
        clear hbl
        go_wp2_with fail
        go_ret2
        exact ⟨HA.out.2.2, .inl ⟨HR.out, _, rfl, Nat.le_refl _, HA.out.2.1⟩⟩
  · have hne : ((m : Int) != (n : Int)) = true := by rw [bne_iff_ne]; omega
    have HF : Hid (payB n ps = false) := Lib.hid (by unfold payB; rw [decide_eq_false (by omega), Bool.and_false])
    clear hl h hr hmn
    go_enter Try.func67, Try.ntmps67
    go_wp2_with fail
    refine (players_any _ _ n _ _ HNP.out).mono ?_
    rintro e w' ⟨rfl, rfl⟩
    go_wp2_with fail
    go_ret2
    exact ⟨Below.refl _ _, .inr ⟨HF.out, rfl⟩⟩
end Go.Proofs.Ytbidboagaoifaaa
