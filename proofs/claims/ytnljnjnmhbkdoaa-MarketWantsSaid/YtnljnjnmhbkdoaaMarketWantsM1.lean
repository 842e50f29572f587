/- Laws and contracts that the proof of MarketWants uses, part 7. -/
import Derived.Test.YtnljnjnmhbkdoaaBaseM2
import Derived.Test.YtnljnjnmhbkdoaaBaseM1
import Derived.Test.YtnljnjnmhbkdoaaBaseM6
namespace Go.Proofs.Ytnljnjnmhbkdoaa
open Go.RowKit

/- Contract: slices.Equal of ints. -/

set_option maxHeartbeats 800000 in
theorem equal_any (A A' : Option Addr) (n n' cap cap' : Nat) (ps qs : List Int) (w : World) (hl : ps.length = n) (hl' : qs.length = n') (hm : n ≤ 9223372036854775807) (h : Ints w A ps) (h' : Ints w A' qs) :
    Calls Try.prog 34 #[.slice A n cap, .slice A' n' cap'] w fun e w' => e = .returned (.bool (eqB ps qs)) ∧ ∃ m, w' = w.drewN m := by
  by_cases hnn : n = n'
  · subst hnn
    by_cases h0 : n = 0
    · subst h0
      obtain rfl := List.eq_nil_of_length_eq_zero hl
      obtain rfl := List.eq_nil_of_length_eq_zero hl'
      go_enter Try.func34, Try.ntmps34
      go_wp2
      refine wp_loop_rounds 1 ?_
      rw [rounds_succ]
      go_wp2
      go_ret
      exact ⟨rfl, 0, rfl⟩
    · obtain ⟨ad, rfl, _, hc⟩ := h.some_ (by omega)
      obtain ⟨ad', rfl, _, hc'⟩ := h'.some_ (by omega)
      have H := Lib.hid (And.intro hl (And.intro hl' (And.intro hc hc')))
      clear hl hl' hc hc' h h'
      go_enter Try.func34, Try.ntmps34
      go_wp2
      go_loopw [13] (fun iv wr => ∃ k : Nat, k ≤ n ∧ iv = .int .i64 k ∧ ps.take k = qs.take k ∧ ∃ m, wr = w.drewN m) (fun iv _ => n - (intOf iv).toNat)
      case atStart => exact ⟨0, Nat.zero_le _, rfl, rfl, 0, rfl⟩
      case round =>
        obtain ⟨k, hk, rfl, ht, m, rfl⟩ := hrel
        have HT := Lib.hid ht
        clear ht
        obtain ⟨hl, hl', hc, hc'⟩ := H.out
        by_cases hlt : k < n
        · obtain ⟨p, hp⟩ : ∃ p, ps[k]? = some p := ⟨_, List.getElem?_eq_getElem (by omega)⟩
          obtain ⟨q, hq⟩ : ∃ q, qs[k]? = some q := ⟨_, List.getElem?_eq_getElem (by omega)⟩
          have c1 := hc k p hp
          have c2 := hc' k q hq
          have HP := Lib.hid (And.intro hp hq)
          clear hp hq hc hc' hl hl'
          by_cases he : p = q
          · subst he
            go_wp2_with fail
            go_quiet (fail)
            go_wp2_with fail
            go_roundw
            case rel => exact ⟨k + 1, by omega, by go_num, take_eq_succ HP.out.1 HP.out.2 HT.out, by first | exact ⟨_, rfl⟩ | exact ⟨_, World.drewN_drewN _ _ _⟩⟩
            case measure => simp [intOf]; omega
          · have hne : (p != q) = true := by simpa using he
            have HNE := Lib.hid he
            clear he
            go_wp2_with fail
            go_quiet (fail)
            go_wp2_with fail
            go_ret
            exact ⟨ret_bool (eqB_at HP.out.1 HP.out.2 HNE.out).symm, by first | exact ⟨_, rfl⟩ | exact ⟨_, World.drewN_drewN _ _ _⟩⟩
        · obtain rfl : k = n := by omega
          have HF : Hid (eqB ps qs = true) := Lib.hid (eqB_all hl hl' HT.out)
          clear hl hl' hc hc'
          go_wp2
          go_ret
          exact ⟨ret_bool HF.out.symm, m, rfl⟩
  · have HF : Hid (eqB ps qs = false) := Lib.hid (eqB_len (by omega))
    have hne : ((n : Int) != (n' : Int)) = true := by rw [bne_iff_ne]; omega
    clear hl hl' h h'
    go_enter Try.func34, Try.ntmps34
    go_wp2
    go_ret
    exact ⟨ret_bool HF.out.symm, 0, rfl⟩

/- MarketWants: the walk. -/

theorem I64s.take {ps : List (Int × Int)} (h : I64s ps) (k : Nat) : I64s (ps.take k) := fun p hp => h p (List.mem_of_mem_take hp)
theorem prsOk_take {B : List Int} {V : List (List Int)} (hv : validM B V = true) (ps : List (Int × Int)) : prsOk V (ps.take 6) = prsOk V ps := by
  have hg := (validM_iff.1 hv).2.1.2
  by_cases h : ps.length ≤ 6
  · rw [List.take_of_length_le h]
  · unfold prsOk
    rw [decide_eq_false (show ¬ (ps.take 6).length = goodsN V by rw [List.length_take]; omega), decide_eq_false (show ¬ ps.length = goodsN V by omega), Bool.and_false, Bool.and_false]
theorem prs_small {B : List Int} {V : List (List Int)} (hv : validM B V = true) {ps : List (Int × Int)} (h : prsOk V ps = true) : ps.length = goodsN V ∧ ps.take 6 = ps ∧ ps.all (okF 1) = true := by
  have hg := (validM_iff.1 hv).2.1.2
  unfold prsOk at h
  rw [Bool.and_eq_true, decide_eq_true_eq] at h
  exact ⟨h.2, List.take_of_length_le (by omega), h.1⟩
theorem wantF_none {B : List Int} {V : List (List Int)} {ps : List (Int × Int)} (h : validM B V = false ∨ prsOk V ps = false) : wantF B V (ps.take 6) = none := by
  unfold wantF
  cases hv : validM B V with
  | false => rfl
  | true =>
    rcases h with h | h
    · rw [hv] at h; cases h
    · rw [prsOk_take hv, h]; rfl
theorem wantF_yes {B : List Int} {V : List (List Int)} {ps : List (Int × Int)} (hv : validM B V = true) (h : prsOk V ps = true) : wantF B V (ps.take 6) = some ((List.range B.length).map fun i => wantS (rowV V i) (toQ ps)) := by
  unfold wantF
  rw [prsOk_take hv, hv, h, (prs_small hv h).2.1]
  rfl
set_option maxRecDepth 100000 in
set_option maxHeartbeats 4000000 in
theorem law_mwants (A : Option Addr) (n c : Nat) (U : Option Addr) (m d : Nat) (B : List Int) (V : List (List Int)) (P : Option Addr) (cp : Nat) (ps : List (Int × Int)) (W : World) (hK : MktArg W A n c U m d B V) (hpc : ps.length ≤ cp) (hpm : cp ≤ 9223372036854775807) (hP : Prs W P ps) (hi : I64s ps) :
    Calls Try.prog 10 #[mktV A n c U m d, .slice P ps.length cp] W fun e w' => e = .returned (.bool true) ∧ Below W.heap.size W w' := by
  have hC1 := Ch.start W A n c U m d
  obtain ⟨w1, hw1⟩ : ∃ w1, w1 = W.alloc (.cells #[.slice A n c, .slice U m d] 25) := ⟨_, rfl⟩
  rw [← hw1] at hC1
  obtain ⟨lp, hlp⟩ : ∃ lp, lp = ps.length := ⟨_, rfl⟩
  rw [← hlp] at hpc ⊢
  have HK := Lib.hid (And.intro hK (And.intro hP (And.intro hi hlp)))
  have HC1 := Lib.hid hC1
  obtain ⟨m1, m2, _, _⟩ := hC1.1.at2
  clear hK hC1 hP hi hlp
  unfold mktV
  go_enter Try.func10, Try.ntmps10
  go_wp2_with fail
  rw [← hw1]
  clear hw1
  refine ((HK.out.1.below HC1.out.2).of).mono ?_
  rintro e w2 ⟨A2, n2, c2, U2, q2, d2, b2, vs2, rfl, hO2⟩
  have HC2 := Lib.hid (HC1.out.next hO2.below)
  have HO2 := Lib.hid hO2
  clear hO2 m1 m2
  go_wp2_with fail
  refine (l4prices_any P lp cp ps w2 HK.out.2.2.2.symm hpc hpm (HK.out.2.1.below HC2.out.2)).mono ?_
  rintro e w3 ⟨A3, c3, rfl, hown3, hb3⟩
  have HC3 := Lib.hid (HC2.out.next hb3)
  have hl3 : (ps.take 6).length = min lp 6 := by rw [List.length_take, HK.out.2.2.2]; omega
  obtain ⟨l3, hl3'⟩ : ∃ l3, l3 = min lp 6 := ⟨_, rfl⟩
  rw [← hl3'] at hl3 ⊢
  have h36 : l3 ≤ 6 := by omega
  have HW := Lib.hid (of_want HO2.out hb3 A3 l3 c3 (ps.take 6) (At.of_own hown3) hl3 (by omega) (HK.out.2.2.1.take 6))
  clear hown3 hb3 hl3 hl3'
  go_wp2_with fail
  refine HW.out.mono ?_
  intro ev w4 hpost
  unfold WantPost at hpost
  obtain ⟨hb4, hpost⟩ := hpost
  have HC4 := Lib.hid (HC3.out.next hb4)
  obtain ⟨m1, m2, _, _⟩ := HC4.out.1.at2
  clear hb4 HW
  have HV := Lib.hid (HK.out.1.below HC4.out.2).valid
  cases hv : validM B V with
  | false =>
    rw [wantF_none (.inl hv)] at hpost
    subst hpost
    rw [hv] at HV
    clear hv
    go_wp2_with fail
    refine HV.out.mono ?_
    rintro e w5 ⟨rfl, hb5⟩
    have HC5 := Lib.hid (HC4.out.next hb5)
    clear hb5
    go_wp2_with fail
    refine (l4awake_any _).mono ?_
    rintro e w6 ⟨rfl, hb6⟩
    have HC6 := Lib.hid (HC5.out.next hb6)
    clear hb6
    go_wp2_with fail
    go_ret
    exact ⟨rfl, HC6.out.2⟩
  | true =>
    have HVA := Lib.hid hv
    rw [hv] at HV
    cases hpk : prsOk V ps with
    | false =>
      rw [wantF_none (.inr hpk)] at hpost
      subst hpost
      have HPK := Lib.hid hpk
      clear hv hpk
      go_wp2_with fail
      refine HV.out.mono ?_
      rintro e w5 ⟨rfl, hb5⟩
      have HC5 := Lib.hid (HC4.out.next hb5)
      clear hb5 m1 m2
      obtain ⟨m1, m2, _, _⟩ := HC5.out.1.at2
      have HRP := Lib.hid (r4prices_any A n c U m d P cp B V ps w5 (HK.out.1.mkt.below HC5.out.2) (by have := (validM_iff.1 HVA.out).1; have := HK.out.1.mkt.hV; omega) (HK.out.2.1.below HC5.out.2) (by rw [← HK.out.2.2.2]; omega) HK.out.2.2.1)
      rw [← HK.out.2.2.2, HPK.out] at HRP
      go_wp2_with fail
      refine HRP.out.mono ?_
      rintro e w6 ⟨rfl, hb6⟩
      have HC6 := Lib.hid (HC5.out.next hb6)
      clear hb6
      go_wp2_with fail
      refine (l4awake_any _).mono ?_
      rintro e w7 ⟨rfl, hb7⟩
      have HC7 := Lib.hid (HC6.out.next hb7)
      clear hb7
      go_wp2_with fail
      go_ret
      exact ⟨rfl, HC7.out.2⟩
    | true =>
      rw [wantF_yes hv hpk] at hpost
      obtain ⟨A5, c5, rfl, hat⟩ := hpost
      have hsm := prs_small hv hpk
      have HPK := Lib.hid (And.intro hpk hsm)
      have hBn := HK.out.1.mkt.hB
      have e1 : ((List.range B.length).map fun i => wantS (rowV V i) (toQ ps)).length = n := by rw [List.length_map, List.length_range]; exact hBn
      rw [e1]
      have HAT := Lib.hid hat
      clear hv hpk hat e1 hsm
      go_wp2_with fail
      refine HV.out.mono ?_
      rintro e w5 ⟨rfl, hb5⟩
      have HC5 := Lib.hid (And.intro (HC4.out.next hb5) hb5)
      clear hb5 m1 m2
      obtain ⟨m1, m2, _, _⟩ := HC5.out.1.1.at2
      have HRP := Lib.hid (r4prices_any A n c U m d P cp B V ps w5 (HK.out.1.mkt.below HC5.out.1.2) (by have := (validM_iff.1 HVA.out).1; have := HK.out.1.mkt.hV; omega) (HK.out.2.1.below HC5.out.1.2) (by rw [← HK.out.2.2.2]; omega) HK.out.2.2.1)
      rw [← HK.out.2.2.2, HPK.out.1] at HRP
      go_wp2_with fail
      refine HRP.out.mono ?_
      rintro e w6 ⟨rfl, hb6⟩
      have HC6 := Lib.hid (And.intro (HC5.out.1.next hb6) (HC5.out.2.trans (hb6.mono HC5.out.2.size)))
      clear hb6 m1 m2
      obtain ⟨m1, m2, _, _⟩ := HC6.out.1.1.at2
      obtain ⟨rfl, hmk⟩ := mkIn_of (HK.out.1.mkt.below HC6.out.1.2) HVA.out
      have hl : lp = goodsN V := by rw [HK.out.2.2.2]; exact HPK.out.2.1
      have HRW := Lib.hid (r4want_any A m c U d (goodsN V) cp P B V (toQ ps) w6 hmk (by
        unfold Go.Proofs.Ytnljnjnmhbkdoaa.Fracs
        rw [toQ_pr HPK.out.2.2.2]
        exact HK.out.2.1.below HC6.out.1.2) (by rw [toQ_length]; exact HPK.out.2.1) (toQ_ok HPK.out.2.2.2))
      rw [← hl] at HRW
      have hm3 := hmk.hn
      clear hl hmk
      go_wp2_with fail
      refine HRW.out.mono ?_
      rintro e w7 ⟨A7, c7, rfl, hat7, hb7⟩
      have HC7 := Lib.hid (HC6.out.1.next hb7)
      have hat5 := (HAT.out.below HC6.out.2).below hb7
      have e2 : ((List.range B.length).map fun i => wantS (rowV V i) (toQ ps)).map (fun (s : Nat) => Value.int .i64 (s : Int)) = ((List.range m).map fun i => ((wantS (rowV V i) (toQ ps) : Nat) : Int)).map (Value.int .i64) := by rw [List.map_map, List.map_map, hBn]; rfl
      have e3 : wantV V (toQ ps) m = ((List.range m).map fun i => ((wantS (rowV V i) (toQ ps) : Nat) : Int)).map (Value.int .i64) := by unfold wantV; rw [List.map_map]; rfl
      rw [e2] at hat5
      rw [e3] at hat7
      have HEQ := Lib.hid (equal_any A5 A7 m m c5 c7 _ _ w7 (by simp) (by simp) (by omega) hat5 hat7)
      clear hat5 hat7 e2 e3 hb7 m1 m2
      go_wp2_with fail
      refine HEQ.out.mono ?_
      rintro e w8 ⟨rfl, m8, rfl⟩
      have HC8 : Hid (Below W.heap.size W (w7.drewN m8)) := Lib.hid (below_drewN HC7.out.2 m8)
      rw [show ∀ l : List Int, eqB l l = true from fun l => decide_eq_true rfl]
      clear HEQ
      go_wp2_with fail
      refine (l4awake_any _).mono ?_
      rintro e w9 ⟨rfl, hb9⟩
      have HC9 := Lib.hid (HC8.out.trans (hb9.mono HC8.out.size))
      clear hb9
      go_wp2_with fail
      go_ret
      exact ⟨rfl, HC9.out⟩
end Go.Proofs.Ytnljnjnmhbkdoaa
