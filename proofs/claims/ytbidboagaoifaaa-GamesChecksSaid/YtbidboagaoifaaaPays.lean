/- Contract: Pays of package corrodyref07: the payment of a set. -/
import Derived.Test.YtbidboagaoifaaaEqual
import Derived.Test.YtbidboagaoifaaaPaysLaw
namespace Go.Proofs.Ytbidboagaoifaaa
open Go.RowKit

set_option maxHeartbeats 1600000 in
theorem rpays_any (A : Option Addr) (n cap set : Nat) (qs : List Rat) (w : World) (hl : qs.length = n) (hn : n ≤ 4) (hs : set < 65536) (hsm : ∀ q ∈ qs, smallQ q) (h : Fracs w A qs) :
    Calls Try.prog 23 #[.slice A n cap, .int .i64 set] w fun e w' => e = .returned (fr (paysL qs set)) ∧ Below w.heap.size w w' := by
  have H := Lib.hid (And.intro hl (And.intro hsm h))
  generalize hR : fr (paysL qs set) = R
  have HR := Lib.hid hR
  clear hl hsm h hR
  go_enter Try.func23, Try.ntmps23
  go_wp2_with fail
  refine (rwhole_any _ _).mono ?_
  rintro e w1 ⟨rfl, hb⟩
  have hB0 : Blk w1 w.heap.size 31 #[.int .i64 0, .int .i64 0] := (Blk.new _ _ _ rfl).below hb (by go_size)
  have hz1 := hB0.lt
  have hw1 : Below w.heap.size w w1 := ((Below.refl _ _).alloc (Nat.le_refl _) _).trans (hb.mono (by go_size))
  have H1 := Lib.hid (And.intro hB0 hw1)
  clear hb hB0 hw1
  have e0 : fr ((0 : Int) : Rat) = .agg #[.int .i64 0, .int .i64 1] := rfl
  rw [e0]
  go_wp2_with fail
  go_loopw [11] (fun iv wr => ∃ k : Nat, k ≤ n ∧ iv = .int .i64 k ∧ Blk wr w1.heap.size 31 #[.int .i64 (paysTo qs set k).num, .int .i64 ((paysTo qs set k).den : Int)] ∧ Below w1.heap.size w1 wr) (fun iv _ => n - (intOf iv).toNat)
  case atStart => exact ⟨0, Nat.zero_le _, rfl, Blk.new _ _ _ rfl, (Below.refl _ _).alloc (Nat.le_refl _) _⟩
  case round =>
    obtain ⟨k, hk, rfl, hB, hbl⟩ := hrel
    obtain ⟨hl, hsm, hF⟩ := H.out
    by_cases hlt : k < n
    · obtain ⟨ad, hA, _, hc⟩ := hF.some_ (by omega)
      obtain ⟨q, hq⟩ : ∃ q, qs[k]? = some q := ⟨_, List.getElem?_eq_getElem (by omega)⟩
      have hw := H1.out.2
      have c1 := (hw.trans (hbl.mono hw.size)).cell (lt_of_cell (hc k q hq).1) |>.trans (hc k q hq).1
      have c2 := (hw.trans (hbl.mono hw.size)).cell (lt_of_cell (hc k q hq).2) |>.trans (hc k q hq).2
      have hcap := cap_pays hsm set k (by omega)
      have hsq := hsm q (List.mem_of_getElem? hq)
      have hbd := DQ_le (k := k) (by omega)
      have hpb := prod_bds hcap hsq
      have hg : qs.getD k 0 = q := by rw [List.getD_eq_getElem?_getD, hq]; rfl
      have hN := paysTo_succ qs set k
      rw [hg] at hN
      generalize hP : paysTo qs set k = P at *
      generalize hP' : paysTo qs set (k + 1) = P' at *
      have HA := Lib.hid hA
      have HB := Lib.hid (And.intro hB hbl)
      have hBl : ∀ o, Blk (wr.alloc o) w1.heap.size 31 #[.int .i64 P.num, .int .i64 (P.den : Int)] := fun o => hB.alloc o
      obtain ⟨p1, p2, p3, p4⟩ := hB.at2
      have q1 : ∀ o, (wr.alloc o).cell? ⟨w1.heap.size, 0, none⟩ = some (.int .i64 P.num) := fun o => (hBl o).at2.1
      have q2 : ∀ o, (wr.alloc o).cell? ⟨w1.heap.size, 1, none⟩ = some (.int .i64 (P.den : Int)) := fun o => (hBl o).at2.2.1
      have hzz := hB.lt
      have hws := hbl.size
      have hpb' : -4000000000000000000 ≤ P.num * q.den ∧ P.num * q.den ≤ 4000000000000000000 ∧ -4000000000000000000 ≤ q.num * P.den ∧ q.num * P.den ≤ 4000000000000000000 ∧ (P.den : Int) * q.den ≤ 4000000000000000000 := by omega
      have HPB := Lib.hid hpb'
      have HN := Lib.hid hN
      have HP' := Lib.hid hP'
      clear hcap hsq hpb hpb' hN hP' hB hbl hc hF hl hsm hBl hg hq hw hbd
      subst hA
      cases ht : set.testBit k
      · have hbit := and_shr_f (set := set) (k := k) (by omega) ht
        have HT := Lib.hid ht
        clear ht
        go_wp2
        go_roundw
        case rel =>
          refine ⟨k + 1, by omega, by go_num, ?_, HB.out.2.alloc hws _⟩
          have e := HN.out
          rw [HT.out] at e
          rw [HP'.out, e]
          exact HB.out.1.alloc _
        case measure => simp [intOf]; omega
      · have hbit := and_shr_t (set := set) (k := k) (by omega) ht
        have HT := Lib.hid ht
        clear ht
        go_wp2_with fail
        refine (radd_raw P q _ HPB.out.1 HPB.out.2.1 HPB.out.2.2.1 HPB.out.2.2.2.1 HPB.out.2.2.2.2).mono ?_
        rintro e w3 ⟨rfl, hb3⟩
        have e1 : P' = P + q := by have e := HN.out; rw [HT.out] at e; exact e
        rw [← e1]
        have hB3 : Blk w3 w1.heap.size 31 #[.int .i64 P.num, .int .i64 (P.den : Int)] := (HB.out.1.alloc _).below hb3 (by simp; omega)
        have hbl3 : Below w1.heap.size w1 w3 := (HB.out.2.alloc hws _).trans (hb3.mono (by simp; omega))
        obtain ⟨r1, r2, r3, r4⟩ := hB3.at2
        have HB3 := Lib.hid (And.intro hB3 hbl3)
        clear hB3 hbl3 hb3 e1
        unfold fr
        go_wp2
        go_roundw
        case rel =>
          refine ⟨k + 1, by omega, by go_num, ?_, (HB3.out.2.setCell (Nat.le_refl _) _).setCell (Nat.le_refl _) _⟩
          rw [HP'.out]
          have h1 := (HB3.out.1.set_ 0 (.int .i64 P'.num)).set_ 1 (.int .i64 (P'.den : Int))
          exact h1
        case measure => simp [intOf]; omega
    · obtain rfl : k = n := by omega
      have hB0 := H1.out.1.below hbl (by omega)
      obtain ⟨s1, s2, s3, s4⟩ := hB0.at2
      obtain ⟨p1, p2, p3, p4⟩ := hB.at2
      have e : paysTo qs set k = paysL qs set := by rw [paysL, hl]; rfl
      have HE := Lib.hid e
      have HB := Lib.hid (And.intro hB hbl)
      generalize paysTo qs set k = P at *
      clear hB hbl hB0 hl hsm hF e
      go_wp2
      refine bodyPost_ret (v := R) (by simp [results, Try.results23, go_sem, ← HR.out, ← HE.out, fr, s1, s2]) rfl ⟨rfl, ?_⟩
      have hw := H1.out.2
      exact ((hw.trans (HB.out.2.mono hw.size)).setCell (Nat.le_refl _) _).setCell (Nat.le_refl _) _
end Go.Proofs.Ytbidboagaoifaaa
