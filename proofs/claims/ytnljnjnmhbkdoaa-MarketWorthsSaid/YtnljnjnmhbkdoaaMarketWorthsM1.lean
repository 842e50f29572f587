/- Laws and contracts that the proof of MarketWorths uses, part 7. -/
import Derived.Test.YtnljnjnmhbkdoaaBaseM2
import Derived.Test.YtnljnjnmhbkdoaaBaseM1
import Derived.Test.YtnljnjnmhbkdoaaBaseM6
import Derived.Test.YtnljnjnmhbkdoaaBaseM5
import Derived.Test.YtnljnjnmhbkdoaaBaseM3
namespace Go.Proofs.Ytnljnjnmhbkdoaa
open Go.RowKit

/- Contract: slices.Equal of ints. -/

set_option maxHeartbeats 800000 in
theorem equal_any (A A' : Option Addr) (n n' cap cap' : Nat) (ps qs : List Int) (w : World) (hl : ps.length = n) (hl' : qs.length = n') (hm : n ≤ 9223372036854775807) (h : Ints w A ps) (h' : Ints w A' qs) :
    Calls Try.prog 34 #[.slice A n cap, .slice A' n' cap'] w fun e w' => e = .returned (.bool (eqB ps qs)) ∧ ∃ m, w' = w.drewN m := by
  by_cases hnn : n = n'
  · subst hnn
    by_cases h0 : n = 0
    · subst h0
      obtain rfl := List.eq_nil_of_length_eq_zero hl
      obtain rfl := List.eq_nil_of_length_eq_zero hl'
      go_enter Try.func34, Try.ntmps34
      go_wp2
      refine wp_loop_rounds 1 ?_
      rw [rounds_succ]
      go_wp2
      go_ret
      exact ⟨rfl, 0, rfl⟩
    · obtain ⟨ad, rfl, _, hc⟩ := h.some_ (by omega)
      obtain ⟨ad', rfl, _, hc'⟩ := h'.some_ (by omega)
      have H := Lib.hid (And.intro hl (And.intro hl' (And.intro hc hc')))
      clear hl hl' hc hc' h h'
      go_enter Try.func34, Try.ntmps34
      go_wp2
      go_loopw [13] (fun iv wr => ∃ k : Nat, k ≤ n ∧ iv = .int .i64 k ∧ ps.take k = qs.take k ∧ ∃ m, wr = w.drewN m) (fun iv _ => n - (intOf iv).toNat)
      case atStart => exact ⟨0, Nat.zero_le _, rfl, rfl, 0, rfl⟩
      case round =>
        obtain ⟨k, hk, rfl, ht, m, rfl⟩ := hrel
        have HT := Lib.hid ht
        clear ht
        obtain ⟨hl, hl', hc, hc'⟩ := H.out
        by_cases hlt : k < n
        · obtain ⟨p, hp⟩ : ∃ p, ps[k]? = some p := ⟨_, List.getElem?_eq_getElem (by omega)⟩
          obtain ⟨q, hq⟩ : ∃ q, qs[k]? = some q := ⟨_, List.getElem?_eq_getElem (by omega)⟩
          have c1 := hc k p hp
          have c2 := hc' k q hq
          have HP := Lib.hid (And.intro hp hq)
          clear hp hq hc hc' hl hl'
          by_cases he : p = q
          · subst he
            go_wp2_with fail
            go_quiet (fail)
            go_wp2_with fail
            go_roundw
            case rel => exact ⟨k + 1, by omega, by go_num, take_eq_succ HP.out.1 HP.out.2 HT.out, by first | exact ⟨_, rfl⟩ | exact ⟨_, World.drewN_drewN _ _ _⟩⟩
            case measure => simp [intOf]; omega
          · have hne : (p != q) = true := by simpa using he
            have HNE := Lib.hid he
            clear he
            go_wp2_with fail
            go_quiet (fail)
            go_wp2_with fail
            go_ret
            exact ⟨ret_bool (eqB_at HP.out.1 HP.out.2 HNE.out).symm, by first | exact ⟨_, rfl⟩ | exact ⟨_, World.drewN_drewN _ _ _⟩⟩
        · obtain rfl : k = n := by omega
          have HF : Hid (eqB ps qs = true) := Lib.hid (eqB_all hl hl' HT.out)
          clear hl hl' hc hc'
          go_wp2
          go_ret
          exact ⟨ret_bool HF.out.symm, m, rfl⟩
  · have HF : Hid (eqB ps qs = false) := Lib.hid (eqB_len (by omega))
    have hne : ((n : Int) != (n' : Int)) = true := by rw [bne_iff_ne]; omega
    clear hl hl' h h'
    go_enter Try.func34, Try.ntmps34
    go_wp2
    go_ret
    exact ⟨ret_bool HF.out.symm, 0, rfl⟩

/- MarketWants: the walk. -/

theorem I64s.take {ps : List (Int × Int)} (h : I64s ps) (k : Nat) : I64s (ps.take k) := fun p hp => h p (List.mem_of_mem_take hp)
theorem prsOk_take {B : List Int} {V : List (List Int)} (hv : validM B V = true) (ps : List (Int × Int)) : prsOk V (ps.take 6) = prsOk V ps := by
  have hg := (validM_iff.1 hv).2.1.2
  by_cases h : ps.length ≤ 6
  · rw [List.take_of_length_le h]
  · unfold prsOk
    rw [decide_eq_false (show ¬ (ps.take 6).length = goodsN V by rw [List.length_take]; omega), decide_eq_false (show ¬ ps.length = goodsN V by omega), Bool.and_false, Bool.and_false]
theorem prs_small {B : List Int} {V : List (List Int)} (hv : validM B V = true) {ps : List (Int × Int)} (h : prsOk V ps = true) : ps.length = goodsN V ∧ ps.take 6 = ps ∧ ps.all (okF 1) = true := by
  have hg := (validM_iff.1 hv).2.1.2
  unfold prsOk at h
  rw [Bool.and_eq_true, decide_eq_true_eq] at h
  exact ⟨h.2, List.take_of_length_le (by omega), h.1⟩
theorem wantF_none {B : List Int} {V : List (List Int)} {ps : List (Int × Int)} (h : validM B V = false ∨ prsOk V ps = false) : wantF B V (ps.take 6) = none := by
  unfold wantF
  cases hv : validM B V with
  | false => rfl
  | true =>
    rcases h with h | h
    · rw [hv] at h; cases h
    · rw [prsOk_take hv, h]; rfl
theorem wantF_yes {B : List Int} {V : List (List Int)} {ps : List (Int × Int)} (hv : validM B V = true) (h : prsOk V ps = true) : wantF B V (ps.take 6) = some ((List.range B.length).map fun i => wantS (rowV V i) (toQ ps)) := by
  unfold wantF
  rw [prsOk_take hv, hv, h, (prs_small hv h).2.1]
  rfl
set_option maxRecDepth 100000 in
set_option maxHeartbeats 4000000 in
theorem law_mwants (A : Option Addr) (n c : Nat) (U : Option Addr) (m d : Nat) (B : List Int) (V : List (List Int)) (P : Option Addr) (cp : Nat) (ps : List (Int × Int)) (W : World) (hK : MktArg W A n c U m d B V) (hpc : ps.length ≤ cp) (hpm : cp ≤ 9223372036854775807) (hP : Prs W P ps) (hi : I64s ps) :
    Calls Try.prog 10 #[mktV A n c U m d, .slice P ps.length cp] W fun e w' => e = .returned (.bool true) ∧ Below W.heap.size W w' := by
  have hC1 := Ch.start W A n c U m d
  obtain ⟨w1, hw1⟩ : ∃ w1, w1 = W.alloc (.cells #[.slice A n c, .slice U m d] 25) := ⟨_, rfl⟩
  rw [← hw1] at hC1
  obtain ⟨lp, hlp⟩ : ∃ lp, lp = ps.length := ⟨_, rfl⟩
  rw [← hlp] at hpc ⊢
  have HK := Lib.hid (And.intro hK (And.intro hP (And.intro hi hlp)))
  have HC1 := Lib.hid hC1
  obtain ⟨m1, m2, _, _⟩ := hC1.1.at2
  clear hK hC1 hP hi hlp
  unfold mktV
  go_enter Try.func10, Try.ntmps10
  go_wp2_with fail
  rw [← hw1]
  clear hw1
  refine ((HK.out.1.below HC1.out.2).of).mono ?_
  rintro e w2 ⟨A2, n2, c2, U2, q2, d2, b2, vs2, rfl, hO2⟩
  have HC2 := Lib.hid (HC1.out.next hO2.below)
  have HO2 := Lib.hid hO2
  clear hO2 m1 m2
  go_wp2_with fail
  refine (l4prices_any P lp cp ps w2 HK.out.2.2.2.symm hpc hpm (HK.out.2.1.below HC2.out.2)).mono ?_
  rintro e w3 ⟨A3, c3, rfl, hown3, hb3⟩
  have HC3 := Lib.hid (HC2.out.next hb3)
  have hl3 : (ps.take 6).length = min lp 6 := by rw [List.length_take, HK.out.2.2.2]; omega
  obtain ⟨l3, hl3'⟩ : ∃ l3, l3 = min lp 6 := ⟨_, rfl⟩
  rw [← hl3'] at hl3 ⊢
  have h36 : l3 ≤ 6 := by omega
  have HW := Lib.hid (of_want HO2.out hb3 A3 l3 c3 (ps.take 6) (At.of_own hown3) hl3 (by omega) (HK.out.2.2.1.take 6))
  clear hown3 hb3 hl3 hl3'
  go_wp2_with fail
  refine HW.out.mono ?_
  intro ev w4 hpost
  unfold WantPost at hpost
  obtain ⟨hb4, hpost⟩ := hpost
  have HC4 := Lib.hid (HC3.out.next hb4)
  obtain ⟨m1, m2, _, _⟩ := HC4.out.1.at2
  clear hb4 HW
  have HV := Lib.hid (HK.out.1.below HC4.out.2).valid
  cases hv : validM B V with
  | false =>
    rw [wantF_none (.inl hv)] at hpost
    subst hpost
    rw [hv] at HV
    clear hv
    go_wp2_with fail
    refine HV.out.mono ?_
    rintro e w5 ⟨rfl, hb5⟩
    have HC5 := Lib.hid (HC4.out.next hb5)
    clear hb5
    go_wp2_with fail
    refine (l4awake_any _).mono ?_
    rintro e w6 ⟨rfl, hb6⟩
    have HC6 := Lib.hid (HC5.out.next hb6)
    clear hb6
    go_wp2_with fail
    go_ret
    exact ⟨rfl, HC6.out.2⟩
  | true =>
    have HVA := Lib.hid hv
    rw [hv] at HV
    cases hpk : prsOk V ps with
    | false =>
      rw [wantF_none (.inr hpk)] at hpost
      subst hpost
      have HPK := Lib.hid hpk
      clear hv hpk
      go_wp2_with fail
      refine HV.out.mono ?_
      rintro e w5 ⟨rfl, hb5⟩
      have HC5 := Lib.hid (HC4.out.next hb5)
      clear hb5 m1 m2
      obtain ⟨m1, m2, _, _⟩ := HC5.out.1.at2
      have HRP := Lib.hid (r4prices_any A n c U m d P cp B V ps w5 (HK.out.1.mkt.below HC5.out.2) (by have := (validM_iff.1 HVA.out).1; have := HK.out.1.mkt.hV; omega) (HK.out.2.1.below HC5.out.2) (by rw [← HK.out.2.2.2]; omega) HK.out.2.2.1)
      rw [← HK.out.2.2.2, HPK.out] at HRP
      go_wp2_with fail
      refine HRP.out.mono ?_
      rintro e w6 ⟨rfl, hb6⟩
      have HC6 := Lib.hid (HC5.out.next hb6)
      clear hb6
      go_wp2_with fail
      refine (l4awake_any _).mono ?_
      rintro e w7 ⟨rfl, hb7⟩
      have HC7 := Lib.hid (HC6.out.next hb7)
      clear hb7
      go_wp2_with fail
      go_ret
      exact ⟨rfl, HC7.out.2⟩
    | true =>
      rw [wantF_yes hv hpk] at hpost
      obtain ⟨A5, c5, rfl, hat⟩ := hpost
      have hsm := prs_small hv hpk
      have HPK := Lib.hid (And.intro hpk hsm)
      have hBn := HK.out.1.mkt.hB
      have e1 : ((List.range B.length).map fun i => wantS (rowV V i) (toQ ps)).length = n := by rw [List.length_map, List.length_range]; exact hBn
      rw [e1]
      have HAT := Lib.hid hat
      clear hv hpk hat e1 hsm
      go_wp2_with fail
      refine HV.out.mono ?_
      rintro e w5 ⟨rfl, hb5⟩
      have HC5 := Lib.hid (And.intro (HC4.out.next hb5) hb5)
      clear hb5 m1 m2
      obtain ⟨m1, m2, _, _⟩ := HC5.out.1.1.at2
      have HRP := Lib.hid (r4prices_any A n c U m d P cp B V ps w5 (HK.out.1.mkt.below HC5.out.1.2) (by have := (validM_iff.1 HVA.out).1; have := HK.out.1.mkt.hV; omega) (HK.out.2.1.below HC5.out.1.2) (by rw [← HK.out.2.2.2]; omega) HK.out.2.2.1)
      rw [← HK.out.2.2.2, HPK.out.1] at HRP
      go_wp2_with fail
      refine HRP.out.mono ?_
      rintro e w6 ⟨rfl, hb6⟩
      have HC6 := Lib.hid (And.intro (HC5.out.1.next hb6) (HC5.out.2.trans (hb6.mono HC5.out.2.size)))
      clear hb6 m1 m2
      obtain ⟨m1, m2, _, _⟩ := HC6.out.1.1.at2
      obtain ⟨rfl, hmk⟩ := mkIn_of (HK.out.1.mkt.below HC6.out.1.2) HVA.out
      have hl : lp = goodsN V := by rw [HK.out.2.2.2]; exact HPK.out.2.1
      have HRW := Lib.hid (r4want_any A m c U d (goodsN V) cp P B V (toQ ps) w6 hmk (by
        unfold Go.Proofs.Ytnljnjnmhbkdoaa.Fracs
        rw [toQ_pr HPK.out.2.2.2]
        exact HK.out.2.1.below HC6.out.1.2) (by rw [toQ_length]; exact HPK.out.2.1) (toQ_ok HPK.out.2.2.2))
      rw [← hl] at HRW
      have hm3 := hmk.hn
      clear hl hmk
      go_wp2_with fail
      refine HRW.out.mono ?_
      rintro e w7 ⟨A7, c7, rfl, hat7, hb7⟩
      have HC7 := Lib.hid (HC6.out.1.next hb7)
      have hat5 := (HAT.out.below HC6.out.2).below hb7
      have e2 : ((List.range B.length).map fun i => wantS (rowV V i) (toQ ps)).map (fun (s : Nat) => Value.int .i64 (s : Int)) = ((List.range m).map fun i => ((wantS (rowV V i) (toQ ps) : Nat) : Int)).map (Value.int .i64) := by rw [List.map_map, List.map_map, hBn]; rfl
      have e3 : wantV V (toQ ps) m = ((List.range m).map fun i => ((wantS (rowV V i) (toQ ps) : Nat) : Int)).map (Value.int .i64) := by unfold wantV; rw [List.map_map]; rfl
      rw [e2] at hat5
      rw [e3] at hat7
      have HEQ := Lib.hid (equal_any A5 A7 m m c5 c7 _ _ w7 (by simp) (by simp) (by omega) hat5 hat7)
      clear hat5 hat7 e2 e3 hb7 m1 m2
      go_wp2_with fail
      refine HEQ.out.mono ?_
      rintro e w8 ⟨rfl, m8, rfl⟩
      have HC8 : Hid (Below W.heap.size W (w7.drewN m8)) := Lib.hid (below_drewN HC7.out.2 m8)
      rw [show ∀ l : List Int, eqB l l = true from fun l => decide_eq_true rfl]
      clear HEQ
      go_wp2_with fail
      refine (l4awake_any _).mono ?_
      rintro e w9 ⟨rfl, hb9⟩
      have HC9 := Lib.hid (HC8.out.trans (hb9.mono HC8.out.size))
      clear hb9
      go_wp2_with fail
      go_ret
      exact ⟨rfl, HC9.out⟩

/- What Check says of what Prices and Spend return, and of others: laws. -/

section
variable {B : List Int} {V : List (List Int)} {r : List Rat × List (List Rat)}
theorem sps_okF (hP : prF B V = some r) {x : List Rat} (hx : x ∈ r.2) : (x.map pr).all (okF 0) = true := by
  obtain ⟨hv, hs⟩ := prF_ok hP
  have hE := hs.equi hv
  rw [List.all_eq_true]
  intro y hy
  obtain ⟨q, hq, rfl⟩ := List.mem_map.1 hy
  obtain ⟨i, hi⟩ := List.getElem?_of_mem hx
  obtain ⟨g, hg⟩ := List.getElem?_of_mem hq
  have hil : i < B.length := by rw [← hs.ls]; exact (List.getElem?_eq_some_iff.1 hi).1
  have hgl : g < goodsN V := by rw [← hs.lr x hx]; exact (List.getElem?_eq_some_iff.1 hg).1
  have hq0 : 0 ≤ q := by
    have h1 := hE.nn i g hil hgl
    unfold spd rowQ at h1
    rw [List.getD_eq_getElem?_getD, List.getD_eq_getElem?_getD, hi] at h1
    simp only [Option.getD_some] at h1
    rwa [hg] at h1
  obtain ⟨a1, a2, a3⟩ := hs.ss x hx q hq
  have hd := den_pos q
  exact okF_iff.2 ⟨Rat.num_nonneg.2 hq0, by omega, by omega, by omega, rat_lowest q⟩
theorem sps_i64 (hP : prF B V = some r) {x : List (Int × Int)} (hx : x ∈ r.2.map (·.map pr)) : I64s x := by
  obtain ⟨hv, hs⟩ := prF_ok hP
  obtain ⟨y, hy, rfl⟩ := List.mem_map.1 hx
  intro z hz
  obtain ⟨q, hq, rfl⟩ := List.mem_map.1 hz
  obtain ⟨a1, a2, a3⟩ := hs.ss y hy q hq
  have hd := den_pos q
  simp only [pr]
  omega
theorem chk_sol (hP : prF B V = some r) : chkB B V (r.1.map pr) (r.2.map (·.map pr)) = true := by
  obtain ⟨hv, hs⟩ := prF_ok hP
  have e2 : (r.2.map (·.map pr)).map toQ = r.2 := by
    rw [List.map_map]
    conv => rhs; rw [← List.map_id r.2]
    exact List.map_congr_left fun x _ => toQ_of_pr x
  have h1 : prsOk V (r.1.map pr) = true := by
    unfold prsOk
    rw [prices_okF hs.ps, List.length_map, decide_eq_true hs.lp]
    rfl
  have h2 : (r.2.map (·.map pr)).all (rowSp V) = true := by
    rw [List.all_eq_true]
    intro x hx
    obtain ⟨y, hy, rfl⟩ := List.mem_map.1 hx
    unfold rowSp
    rw [sps_okF hP hy, List.length_map, decide_eq_true (hs.lr y hy)]
    rfl
  unfold chkB
  rw [h1, h2, List.length_map, decide_eq_true hs.ls, e2, toQ_of_pr, hs.bal]
  rfl
theorem chk_only (hP : prF B V = some r) {ps : List (Int × Int)} {L : List (List (Int × Int))} (h : chkB B V ps L = true) : ps = r.1.map pr := by
  obtain ⟨hv, hs⟩ := prF_ok hP
  obtain ⟨hm, h2, h3⟩ := mkOk_of hv
  unfold chkB at h
  simp only [Bool.and_eq_true, decide_eq_true_eq] at h
  obtain ⟨hp, _, _, hb⟩ := h
  unfold prsOk at hp
  rw [Bool.and_eq_true, decide_eq_true_eq] at hp
  have hl : (toQ ps).length = goodsN V := by rw [toQ_length]; exact hp.2
  have hE := (bal_equi rfl hl (fun q hq => (toQ_ok hp.1 q hq).pos) h2 (fun i g => (h3 i g).1)).1 hb
  have hu := hE.unique (hs.equi hv) hm.un hm.us
  have e : toQ ps = r.1 := by
    apply List.ext_getElem?
    intro g
    by_cases hg : g < goodsN V
    · have h4 := hu g hg
      unfold priQ at h4
      rw [List.getD_eq_getElem?_getD, List.getD_eq_getElem?_getD] at h4
      rw [List.getElem?_eq_getElem (by omega), List.getElem?_eq_getElem (by rw [hs.lp]; exact hg)] at h4 ⊢
      simp only [Option.getD_some] at h4
      rw [h4]
    · rw [List.getElem?_eq_none (by omega), List.getElem?_eq_none (by rw [hs.lp]; omega)]
  rw [← e, toQ_pr hp.1]
/-- The prices sum to the budgets. -/
theorem sum_prices (hP : prF B V = some r) : sumF (priQ r.1) (goodsN V) = ((sumZ (fun i => B.getD i 0) B.length : Int) : Rat) := by
  obtain ⟨hv, hs⟩ := prF_ok hP
  have hE := hs.equi hv
  rw [sumF_Q, ← sumZ_Q]
  show sumQ (priQ r.1) (goodsN V) = sumQ (budQ B) B.length
  rw [← sumQ_congr fun i hi => hE.row i hi, sq_swap]
  exact (sumQ_congr fun g hg => hE.col g hg).symm
end

/- The worth of what a buyer gets, in balance: plain Lean. -/

/-- A worth, and its size. -/
def WoS (q : Rat) : Prop := 1 ≤ q.num ∧ q.num ≤ 480000 ∧ (q.den : Int) ≤ 48000
section
variable {B : List Int} {V : List (List Int)} {r : List Rat × List (List Rat)}
theorem wor_form (hv : validM B V = true) (h : SolR B V B.length (goodsN V) r) {i : Nat} (hi : i < B.length) : ∃ g0, g0 < goodsN V ∧ 0 < useN V i g0 ∧ worTo V r.1 r.2 i (goodsN V) * priQ r.1 g0 = useQ V i g0 * budQ B i ∧
    ∀ g, g < goodsN V → useQ V i g * priQ r.1 g0 ≤ useQ V i g0 * priQ r.1 g := by
  obtain ⟨hm, _, hu⟩ := mkOk_of hv
  have hE := h.equi hv
  have hex : ∃ g0, g0 < goodsN V ∧ spd r.2 i g0 ≠ 0 := by
    by_cases hx : ∃ g0, g0 < goodsN V ∧ spd r.2 i g0 ≠ 0
    · exact hx
    · exfalso
      have h1 := hE.row i hi
      rw [sumQ_zero fun g hg => by
        by_cases h2 : spd r.2 i g = 0
        · exact h2
        · exact absurd ⟨g, hg, h2⟩ hx] at h1
      have := hm.bp i hi
      grind
  obtain ⟨g0, hg0, hs0⟩ := hex
  have hp0 := hE.pos g0 hg0
  have hu0 := hE.use hm.us hi hg0 hs0
  have hw0 := hE.want i g0 hi hg0 hs0
  refine ⟨g0, hg0, ?_, ?_, hw0⟩
  · unfold useQ at hu0
    exact_mod_cast hu0
  · unfold worTo
    rw [← sq_mulr]
    have e : ∀ g, g < goodsN V → worQ V r.1 r.2 i g * priQ r.1 g0 = useQ V i g0 * spd r.2 i g := fun g hg => by
      unfold worQ
      have hp := hE.pos g hg
      by_cases h2 : spd r.2 i g = 0
      · rw [h2, Rat.mul_zero, Rat.div_def, Rat.zero_mul, Rat.zero_mul, Rat.mul_zero]
      · have h3 := hE.want i g hi hg h2 g0 hg0
        have h4 := hw0 g hg
        have h5 : useQ V i g * priQ r.1 g0 = useQ V i g0 * priQ r.1 g := Rat.le_antisymm h4 h3
        have hne : priQ r.1 g ≠ 0 := by grind
        generalize useQ V i g = a at *
        generalize useQ V i g0 = a0 at *
        generalize priQ r.1 g = pg at *
        generalize priQ r.1 g0 = pg0 at *
        generalize spd r.2 i g = s at *
        grind
    rw [sumQ_congr e, sumQ_mul]
    show useQ V i g0 * sumQ (spd r.2 i) (goodsN V) = _
    rw [hE.row i hi]
theorem fair_ge (hv : validM B V = true) (h : SolR B V B.length (goodsN V) r) {i g : Nat} (hi : i < B.length) (hg : g < goodsN V) : useQ V i g * budQ B i ≤ worTo V r.1 r.2 i (goodsN V) * priQ r.1 g := by
  obtain ⟨g0, hg0, _, e, hw⟩ := wor_form hv h hi
  obtain ⟨hm, _, _⟩ := mkOk_of hv
  have hE := h.equi hv
  have hp0 := hE.pos g0 hg0
  have h1 := hw g hg
  have hb := hm.bp i hi
  have h2 := Rat.mul_le_mul_of_nonneg_left (c := budQ B i) h1 (Rat.le_of_lt hb)
  refine Rat.le_of_mul_le_mul_right (c := priQ r.1 g0) ?_ hp0
  generalize worTo V r.1 r.2 i (goodsN V) = W at *
  generalize useQ V i g = a at *
  generalize useQ V i g0 = a0 at *
  generalize priQ r.1 g = pg at *
  generalize priQ r.1 g0 = pg0 at *
  generalize budQ B i = b at *
  have e2 : W * pg * pg0 = b * (a0 * pg) := by grind
  rw [e2]
  have e3 : a * b * pg0 = b * (a * pg0) := by grind
  rw [e3]
  exact h2
theorem fair_sum (hv : validM B V = true) (h : SolR B V B.length (goodsN V) r) {i : Nat} (hi : i < B.length) : sumQ (useQ V i) (goodsN V) * budQ B i ≤ worTo V r.1 r.2 i (goodsN V) * sumQ (budQ B) B.length := by
  have hE := h.equi hv
  have e : sumQ (budQ B) B.length = sumQ (priQ r.1) (goodsN V) := by
    rw [← sumQ_congr fun i hi => hE.row i hi, sq_swap]
    exact sumQ_congr fun g hg => hE.col g hg
  rw [e, ← sumQ_mul, ← sq_mulr]
  exact sq_mono fun g hg => fair_ge hv h hi hg
theorem fair_sm (hv : validM B V = true) (h : SolR B V B.length (goodsN V) r) {i : Nat} (hi : i < B.length) : WoS (worTo V r.1 r.2 i (goodsN V)) := by
  obtain ⟨g0, hg0, hu0, e, _⟩ := wor_form hv h hi
  have hE := h.equi hv
  have hp0 := hE.pos g0 hg0
  have hP := pri_sm h hg0
  have hub := (mkOk_of hv).2.2 i g0
  obtain ⟨⟨a1, a2, a3, a4⟩, b1, b2, b3⟩ := validM_iff.1 hv
  have hbi := a3 (B.getD i 0) (by
    rw [List.getD_eq_getElem?_getD, List.getElem?_eq_getElem hi]
    exact List.getElem_mem _)
  unfold useQ budQ at e
  generalize worTo V r.1 r.2 i (goodsN V) = W at *
  generalize useN V i g0 = u at *
  generalize B.getD i 0 = b at *
  generalize priQ r.1 g0 = p at *
  obtain ⟨p1, p2, p3⟩ := hP
  have hpd0 := den_pos p
  have eW : W = ((u * b * p.den : Int) : Rat) / ((p.num : Int) : Rat) := by
    rw [Rat.intCast_mul, Rat.intCast_mul]
    have hp' := num_den_of p
    have a2 : ((p.den : Int) : Rat) ≠ 0 := rat_ne (by omega)
    have a3 : (p.num : Rat) ≠ 0 := rat_ne (by omega)
    generalize ((p.den : Int) : Rat) = pd at *
    generalize (p.num : Rat) = pn at *
    subst hp'
    grind
  have h1 : 1 * 1 ≤ u * b ∧ u * b ≤ 20 * 20 := ⟨Int.mul_le_mul (by omega) hbi.1 (by omega) (by omega), Int.mul_le_mul hub.2 hbi.2 (by omega) (by omega)⟩
  have h2 : 1 * 1 ≤ u * b * (p.den : Int) ∧ u * b * (p.den : Int) ≤ 400 * 1200 := ⟨Int.mul_le_mul (by omega) (by omega) (by omega) (by omega), Int.mul_le_mul (by omega) p3 (by omega) (by omega)⟩
  have h4 := frac_bd (by omega) eW
  have h5 := frac_nn (by omega) (by omega) eW
  have h6 : W.num ≠ 0 := fun h0 => by
    have hz := Rat.num_eq_zero.1 h0
    rw [hz, Rat.zero_mul] at e
    have : (u : Rat) * (b : Rat) ≠ 0 := by
      rw [← Rat.intCast_mul]
      exact rat_ne (by omega)
    exact this e.symm
  unfold WoS
  omega
end

/- The worth of what a buyer gets: laws. -/

theorem mulq_bd {p q : Rat} (hp : 0 ≤ p.num) (hq : 0 ≤ q.num) : 0 ≤ (p * q).num ∧ (p * q).num ≤ p.num * q.num ∧ ((p * q).den : Int) ≤ p.den * q.den := by
  have hpd := den_pos p
  have hqd := den_pos q
  have h0 : 0 < (p.den : Int) * q.den := Int.mul_pos hpd hqd
  have e : p * q = ((p.num * q.num : Int) : Rat) / (((p.den : Int) * q.den : Int) : Rat) := by
    rw [Rat.intCast_mul, Rat.intCast_mul]
    have hp' := num_den_of p
    have hq' := num_den_of q
    have a1 : ((p.den : Int) : Rat) ≠ 0 := rat_ne (by omega)
    have a2 : ((q.den : Int) : Rat) ≠ 0 := rat_ne (by omega)
    generalize ((p.den : Int) : Rat) = pd at *
    generalize ((q.den : Int) : Rat) = qd at *
    generalize (p.num : Rat) = pn at *
    generalize (q.num : Rat) = qn at *
    subst hp'
    subst hq'
    grind
  have h1 : 0 ≤ p.num * q.num := Int.mul_nonneg hp hq
  have h4 := frac_bd h0 e
  have h5 := frac_nn h0 h1 e
  generalize p.num * q.num = a at *
  generalize (p.den : Int) * q.den = c at *
  omega
theorem wmul_sm {p q : Rat} (hp : WoS p) (hq : PrS q) : (0 ≤ (p * q).num ∧ (p * q).num ≤ 23040000000) ∧ ((p * q).den : Int) ≤ 57600000 := by
  obtain ⟨p1, p2, p3⟩ := hp
  obtain ⟨q1, q2, q3⟩ := hq
  obtain ⟨h1, h2, h3⟩ := mulq_bd (p := p) (q := q) (by omega) (by omega)
  have hpd := den_pos p
  have hqd := den_pos q
  have a1 : p.num * q.num ≤ 480000 * 48000 := Int.mul_le_mul p2 q2 (by omega) (by omega)
  have a2 : (p.den : Int) * q.den ≤ 48000 * 1200 := Int.mul_le_mul p3 q3 (by omega) (by omega)
  omega
theorem wmul_use (p q : Rat) (w : World) (hp : WoS p) (hq : PrS q) : Calls Try.prog 19 #[.agg #[.int .i64 p.num, .int .i64 (p.den : Int)], .agg #[.int .i64 q.num, .int .i64 (q.den : Int)]] w fun e w' => e = .returned (.agg #[.int .i64 (p * q).num, .int .i64 ((p * q).den : Int)]) ∧ Below w.heap.size w w' := by
  obtain ⟨p1, p2, p3⟩ := hp
  obtain ⟨q1, q2, q3⟩ := hq
  have hpd := den_pos p
  have hqd := den_pos q
  have a0 : 0 ≤ p.num * q.num := Int.mul_nonneg (by omega) (by omega)
  have a1 : p.num * q.num ≤ 480000 * 48000 := Int.mul_le_mul p2 q2 (by omega) (by omega)
  have a2 : (p.den : Int) * q.den ≤ 48000 * 1200 := Int.mul_le_mul p3 q3 (by omega) (by omega)
  exact rmul_raw p q w (by omega) (by omega) (by omega)
theorem wall_use (p : Rat) (z : Int) (w : World) (hp : WoS p) (hz : 0 ≤ z ∧ z ≤ 1000) : (Calls Try.prog 19 #[.agg #[.int .i64 p.num, .int .i64 (p.den : Int)], .agg #[.int .i64 z, .int .i64 1]] w fun e w' => e = .returned (.agg #[.int .i64 (p * (z : Rat)).num, .int .i64 ((p * (z : Rat)).den : Int)]) ∧ Below w.heap.size w w') ∧
    (0 ≤ (p * (z : Rat)).num ∧ (p * (z : Rat)).num ≤ 480000000) ∧ ((p * (z : Rat)).den : Int) ≤ 48000 := by
  obtain ⟨p1, p2, p3⟩ := hp
  obtain ⟨h1, h2, h3⟩ := mulq_bd (p := p) (q := (z : Rat)) (by omega) (by rw [Rat.num_intCast]; omega)
  rw [Rat.num_intCast] at h2
  rw [Rat.den_intCast] at h3
  have hpd := den_pos p
  have a0 : 0 ≤ p.num * z := Int.mul_nonneg (by omega) hz.1
  have a1 : p.num * z ≤ 480000 * 1000 := Int.mul_le_mul p2 hz.2 hz.1 (by omega)
  have h4 := rmul_raw p (z : Rat) w (by rw [Rat.num_intCast]; omega) (by rw [Rat.num_intCast]; omega) (by rw [Rat.den_intCast]; omega)
  unfold fr at h4
  rw [Rat.num_intCast, Rat.den_intCast] at h4
  exact ⟨h4, ⟨h1, by omega⟩, by omega⟩
theorem wless_use (x : Rat) (z : Int) (w : World) (h1 : (0 ≤ x.num ∧ x.num ≤ 23040000000) ∧ (x.den : Int) ≤ 57600000) (hz : 0 ≤ z ∧ z ≤ 10000) (h : ((z : Int) : Rat) ≤ x) : Calls Try.prog 22 #[.agg #[.int .i64 x.num, .int .i64 (x.den : Int)], .agg #[.int .i64 z, .int .i64 1]] w fun e w' => e = .returned (.bool false) ∧ Below w.heap.size w w' := by
  have hd := den_pos x
  have a0 : 0 ≤ z * (x.den : Int) := Int.mul_nonneg hz.1 (by omega)
  have a1 : z * (x.den : Int) ≤ 10000 * 57600000 := Int.mul_le_mul hz.2 h1.2 (by omega) (by omega)
  have h4 := rless_any x (z : Rat) w (by rw [Rat.den_intCast]; omega) (by rw [Rat.den_intCast]; omega) (by rw [Rat.num_intCast]; omega) (by rw [Rat.num_intCast]; omega)
  unfold fr at h4
  rw [Rat.num_intCast, Rat.den_intCast, decide_eq_false (by grind)] at h4
  exact h4

/- MarketFair: the walk. -/

theorem w64 {z : Int} (h : -1000000000000 ≤ z ∧ z ≤ 1000000000000) : wrap64 z = z := by
  unfold wrap64
  go_num
theorem sumZ_bd {f : Nat → Int} {m : Int} {n : Nat} (h : ∀ i, i < n → 0 ≤ f i ∧ f i ≤ m) : 0 ≤ sumZ f n ∧ sumZ f n ≤ m * n := by
  induction n with
  | zero => simp [sumZ]
  | succ n ih =>
    have h1 := ih fun i hi => h i (by omega)
    have h2 := h n (by omega)
    have e : m * ((n + 1 : Nat) : Int) = m * (n : Int) + m := by rw [Int.natCast_add, Int.mul_add]; simp
    rw [e]
    simp only [sumZ]
    omega
/-- Making a fraction's variable. -/
theorem al_frac7 {Q : Exit → Act → World → Prop} (o : Oper) (a : Act) (w' : World) (K : Act → World → Prop) (ho : isAl 37 o = true) (hK : K (a.put o.dst (ptrB w'.heap.size)) (w'.alloc (.cells #[.int .i64 0, .int .i64 0] 37))) : o.wp Try.prog a w' K Q := by
  unfold isAl at ho
  split at ho
  · rename_i t ht
    simp only [Bool.and_eq_true, beq_iff_eq] at ho
    obtain ⟨rfl, _⟩ := ho
    unfold Oper.wp execOp
    rw [ht]
    have hr : ∀ w : World, (newVar 37 (.agg #[.int .i64 0, .int .i64 0])).run Try.prog w = .ok ⟨w.heap.size, 0, none⟩ (w.alloc (.cells #[.int .i64 0, .int .i64 0] 37)) := fun w => by kernel_rfl
    simp [go_sem, Oper.upon]
    exact hK
  · cases ho
theorem run_eq_frac7 (p q : Rat) (w : World) : (binOp .eql 37 (.agg #[.int .i64 p.num, .int .i64 (p.den : Int)]) (.agg #[.int .i64 q.num, .int .i64 (q.den : Int)])).run Try.prog w = .ok (.bool (decide (p = q))) w := by
  have e0 : decide (p = q) = (decide (p.num = q.num) && decide ((p.den : Int) = (q.den : Int))) := by
    rw [Bool.eq_iff_iff]
    simp only [decide_eq_true_eq, Bool.and_eq_true]
    exact ⟨by rintro rfl; exact ⟨rfl, rfl⟩, fun h => Rat.ext h.1 (by omega)⟩
  rw [e0]
  by_cases h1 : p.num = q.num
  · by_cases h2 : (p.den : Int) = (q.den : Int)
    · simp only [h1, h2]; go_simp
    · simp only [h1]; go_simp
  · go_simp
theorem l4whole_use (n : Int) (w : World) : Calls Try.prog 20 #[.int .i64 n] w fun e w' => e = .returned (.agg #[.int .i64 n, .int .i64 1]) ∧ Below w.heap.size w w' :=
  (l4whole_any n w).mono fun _ _ h => ⟨h.1, h.2⟩
/-- Whether one of the first goods is as good as can be. -/
def besTo (V : List (List Int)) (P : List Rat) (W : Rat) (b : Int) (i : Nat) : Nat → Bool
  | 0 => false
  | g + 1 => besTo V P W b i g || decide (W * priQ P g = ((useN V i g * b : Int) : Rat))
theorem besTo_of {V : List (List Int)} {P : List Rat} {W : Rat} {b : Int} {i k g0 : Nat} (h0 : g0 < k) (h : W * priQ P g0 = ((useN V i g0 * b : Int) : Rat)) : besTo V P W b i k = true := by
  induction k with
  | zero => omega
  | succ k ih =>
    simp only [besTo, Bool.or_eq_true, decide_eq_true_eq]
    rcases Nat.lt_or_ge g0 k with h1 | h1
    · exact .inl (ih h1)
    · exact .inr (by rw [show k = g0 by omega]; exact h)
set_option maxRecDepth 100000 in
set_option maxHeartbeats 4000000 in
theorem law_mfair (A : Option Addr) (n c : Nat) (U : Option Addr) (m d : Nat) (B : List Int) (V : List (List Int)) (W : World) (hK : MktArg W A n c U m d B V) :
    Calls Try.prog 8 #[mktV A n c U m d] W fun e w' => e = .returned (.bool true) ∧ Below W.heap.size W w' := by
  have hC1 := Ch.start W A n c U m d
  obtain ⟨w1, hw1⟩ : ∃ w1, w1 = W.alloc (.cells #[.slice A n c, .slice U m d] 25) := ⟨_, rfl⟩
  rw [← hw1] at hC1
  have HK := Lib.hid hK
  have HC1 := Lib.hid hC1
  obtain ⟨m1, m2, _, _⟩ := hC1.1.at2
  clear hK hC1
  unfold mktV
  go_enter Try.func8, Try.ntmps8
  go_wp2_with fail
  rw [← hw1]
  clear hw1
  refine ((HK.out.below HC1.out.2).of).mono ?_
  rintro e w2 ⟨A2, n2, c2, U2, q2, d2, b2, vs2, rfl, hO2⟩
  have HC2 := Lib.hid (HC1.out.next hO2.below)
  have HO2 := Lib.hid hO2
  clear hO2 m1 m2
  go_wp2_with fail
  refine (of_prices HO2.out).mono ?_
  intro ev w3 hpost
  unfold PricesPost at hpost
  obtain ⟨hb3, hpost⟩ := hpost
  have HC3 := Lib.hid (HC2.out.next hb3)
  clear hb3
  obtain ⟨m1, m2, _, _⟩ := HC3.out.1.at2
  cases hp : prF B V with
  | none =>
    rw [hp] at hpost
    subst hpost
    have HP := Lib.hid hp
    clear hp
    go_wp2_with fail
    refine ((HK.out.below HC3.out.2).of).mono ?_
    rintro e w4 ⟨A4, n4, c4, U4, q4, d4, b4, vs4, rfl, hO4⟩
    have HC4 := Lib.hid (HC3.out.next hO4.below)
    have HO4 := Lib.hid hO4
    clear hO4 m1 m2
    go_wp2_with fail
    refine (of_worth HO4.out).mono ?_
    intro ev w5 hpost
    unfold WorthPost at hpost
    rw [HP.out] at hpost
    obtain ⟨hb5, rfl⟩ := hpost
    have HC5 := Lib.hid (HC4.out.next hb5)
    clear hb5
    go_wp2_with fail
    refine (l4awake_any _).mono ?_
    rintro e w6 ⟨rfl, hb6⟩
    have HC6 := Lib.hid (HC5.out.next hb6)
    clear hb6
    go_wp2_with fail
    go_ret
    exact ⟨rfl, HC6.out.2⟩
  | some r =>
    rw [hp] at hpost
    obtain ⟨PA, pc, rfl, hown3⟩ := hpost
    have hpr := prF_ok hp
    have hpl := hpr.2.lp
    have hg3 := (validM_iff.1 hpr.1).2.1
    have hn3 := (validM_iff.1 hpr.1).1
    have hnB := HK.out.mkt.hB
    obtain ⟨k, hk⟩ : ∃ k, k = goodsN V := ⟨_, rfl⟩
    rw [← hk] at hg3 hpl
    have hfr3 := Fracs.of_cells (At.of_own hown3)
    have HP := Lib.hid (And.intro hp (And.intro hpr (And.intro hpl (And.intro hk hn3))))
    have HF3 := Lib.hid hfr3
    rw [hpl]
    have hn13 : 1 ≤ n ∧ n ≤ 3 := by omega
    clear hp hpr hpl hk hown3 hfr3 hn3
    go_wp2_with fail
    refine ((HK.out.below HC3.out.2).of).mono ?_
    rintro e w4 ⟨A4, n4, c4, U4, q4, d4, b4, vs4, rfl, hO4⟩
    have HC4 := Lib.hid (HC3.out.next hO4.below)
    have HO4 := Lib.hid hO4
    have HF4 := Lib.hid (HF3.out.below hO4.below')
    clear hO4 m1 m2
    go_wp2_with fail
    refine (of_worth HO4.out).mono ?_
    intro ev w5 hpost
    unfold WorthPost at hpost
    rw [HP.out.1] at hpost
    obtain ⟨hb5, WA, wc5, rfl, hF5⟩ := hpost
    have HC5 := Lib.hid (HC4.out.next hb5)
    have HF5 := Lib.hid (And.intro (HF4.out.below hb5) hF5)
    obtain ⟨m1, m2, _, _⟩ := HC5.out.1.at2
    have HV := Lib.hid (HK.out.below HC5.out.2).valid
    rw [HP.out.2.1.1] at HV
    rw [hnB]
    clear hb5 hF5
    go_wp2_with fail
    refine HV.out.mono ?_
    rintro e w6 ⟨rfl, hb6⟩
    have HC6 := Lib.hid (HC5.out.next hb6)
    have HF6 := Lib.hid (And.intro (HF5.out.1.below hb6) (HF5.out.2.below hb6))
    clear hb6 m1 m2 HV
    obtain ⟨m1, m2, _, _⟩ := HC6.out.1.at2
    have hmV := HK.out.mkt.hV
    have hvl := (validM_iff.1 HP.out.2.1.1).1
    have HRP := Lib.hid (r4prices_any A n c U m d PA pc B V (r.1.map pr) w6 (HK.out.mkt.below HC6.out.2) (by omega) HF6.out.1 (by rw [List.length_map, HP.out.2.2.1]; omega) (prices_i64 HP.out.2.1.2.ps))
    have hpk : prsOk V (r.1.map pr) = true := by
      unfold prsOk
      rw [prices_okF HP.out.2.1.2.ps, List.length_map, decide_eq_true HP.out.2.1.2.lp]
      rfl
    rw [hpk, List.length_map, HP.out.2.2.1] at HRP
    clear hpk hvl
    go_wp2_with fail
    refine HRP.out.mono ?_
    rintro e w7 ⟨rfl, hb7⟩
    have HC7 := Lib.hid (HC6.out.next hb7)
    have HF7 := Lib.hid (And.intro (HF6.out.1.below hb7) (HF6.out.2.below hb7))
    clear hb7 m1 m2 HRP
    obtain ⟨m1, m2, _, _⟩ := HC7.out.1.at2
    obtain ⟨aB, hA, hAl, hcB⟩ := HK.out.mkt.budgets.some_ (by omega)
    have hbd : ∀ i, i < n → 0 ≤ B.getD i 0 ∧ B.getD i 0 ≤ 20 := fun i hi => by
      have := HP.out.2.2.2.2.2.2.1 (B.getD i 0) (by
        rw [List.getD_eq_getElem?_getD, List.getElem?_eq_getElem (by omega)]
        exact List.getElem_mem _)
      omega
    have hgB : ∀ i, i < n → B[i]? = some (B.getD i 0) := fun i hi => by
      rw [List.getD_eq_getElem?_getD, List.getElem?_eq_getElem (by omega)]; rfl
    have HB := Lib.hid (And.intro hAl (And.intro hcB (And.intro hbd (And.intro hgB hnB))))
    subst hA
    clear hAl hcB hbd hgB
    go_wp2_with fail
    clear m1 m2
    go_loopw [7, 65] (fun av iv wx => ∃ i : Nat, i ≤ n ∧ iv = .int .i64 i ∧ av = .int .i64 (sumZ (fun i => B.getD i 0) i) ∧ Below w7.heap.size w7 wx) (fun _ iv _ => n - (intOf iv).toNat)
    case atStart => exact ⟨0, Nat.zero_le _, rfl, rfl, Below.refl _ _⟩
    case round =>
      obtain ⟨i, hi, rfl, rfl, hbl⟩ := hrel
      have HR := Lib.hid hbl
      clear hbl
      by_cases hin : i < n
      · have hb7 := HC7.out.2.trans (HR.out.mono HC7.out.2.size)
        have hx := HB.out.2.1 i _ (HB.out.2.2.2.1 i hin)
        have c1 := (hb7.cell (lt_of_cell hx)).trans hx
        have hs := sumZ_bd (f := fun i => B.getD i 0) (m := 20) (n := i) (fun j hj => HB.out.2.2.1 j (by omega))
        have hb := HB.out.2.2.1 i hin
        have hnx : sumZ (fun i => B.getD i 0) (i + 1) = sumZ (fun i => B.getD i 0) i + B.getD i 0 := rfl
        generalize sumZ (fun i => B.getD i 0) i = s at *
        generalize B.getD i 0 = b at *
        have hw : wrap64 (s + b) = s + b := w64 (by omega)
        have HN := Lib.hid hnx
        clear hnx hx hb7
        go_wp2_with fail
        go_roundw
        case rel => exact ⟨i + 1, by omega, by go_num, by rw [HN.out], HR.out⟩
        case measure => simp [intOf]; omega
      · obtain rfl : n = i := by omega
        have HC8 := Lib.hid (And.intro (HC7.out.next HR.out) HR.out)
        obtain ⟨w8, rfl⟩ : ∃ w8 : World, w8 = wr := ⟨_, rfl⟩
        obtain ⟨m1, m2, _, _⟩ := HC8.out.1.1.at2
        have HF8 := Lib.hid (And.intro (HF7.out.1.below HR.out) (HF7.out.2.below HR.out))
        obtain ⟨all, hall⟩ : ∃ s, s = sumZ (fun i => B.getD i 0) n := ⟨_, rfl⟩
        have hab := sumZ_bd (f := fun i => B.getD i 0) (m := 20) (n := n) (fun j hj => HB.out.2.2.1 j (by omega))
        rw [← hall] at hab ⊢
        have HALL := Lib.hid hall
        clear hall
        go_wp2_with fail
        clear m1 m2
        go_loopw [76] (fun iv wx => ∃ i : Nat, i ≤ n ∧ iv = .int .i64 i ∧ Below w8.heap.size w8 wx) (fun iv _ => n - (intOf iv).toNat)
        case atStart => exact ⟨0, Nat.zero_le _, rfl, Below.refl _ _⟩
        case round =>
          obtain ⟨i, hi, rfl, hbl⟩ := hrel
          obtain ⟨wo, rfl⟩ : ∃ wo : World, wo = wr := ⟨_, rfl⟩
          have HR2 := Lib.hid hbl
          have HC9 := Lib.hid (HC8.out.1.next hbl)
          clear hbl
          by_cases hin : i < n
          · have hiB : i < B.length := by omega
            have hsm := fair_sm HP.out.2.1.1 HP.out.2.1.2 hiB
            have hgW : (worL V B.length (goodsN V) r)[i]? = some (worTo V r.1 r.2 i (goodsN V)) := by
              unfold worL
              rw [List.getElem?_map, List.getElem?_range hiB]; rfl
            obtain ⟨aW, hWA, _, hcW⟩ := (HF8.out.2.below HR2.out).some_ (by unfold worL; rw [List.length_map, List.length_range]; omega)
            subst hWA
            obtain ⟨v1, v2⟩ := hcW i _ hgW
            have hx := HB.out.2.1 i _ (HB.out.2.2.2.1 i hin)
            have c1 := (HC9.out.2.cell (lt_of_cell hx)).trans hx
            have hb := HB.out.2.2.1 i hin
            obtain ⟨Wi, hWi⟩ : ∃ q, q = worTo V r.1 r.2 i (goodsN V) := ⟨_, rfl⟩
            rw [← hWi] at hsm v1 v2
            obtain ⟨b, hbe⟩ : ∃ b, b = B.getD i 0 := ⟨_, rfl⟩
            rw [← hbe] at c1 hb
            have HWI := Lib.hid (And.intro hWi (And.intro hbe (And.intro v1 (And.intro v2 hsm))))
            obtain ⟨s1, s2, s3⟩ := hsm
            have hlow : lowB Wi.num Wi.den = true := by
              have hd := den_pos Wi
              unfold lowB
              rw [decide_eq_true (by omega), decide_eq_true (by omega), rat_lowest Wi]
              rfl
            have HLO := Lib.hid fun w' => rlowest_any Wi.num Wi.den w' (by omega) (by omega) (by omega)
            rw [hlow] at HLO
            have n1 : ¬ Wi.num < 1 := by omega
            have n2 : ¬ (1048576 : Int) < Wi.num := by omega
            have n3 : ¬ (1048576 : Int) < (Wi.den : Int) := by omega
            clear hgW hcW hx hWi hbe hlow s1 s2 s3
            go_wp2_with fail
            refine (HLO.out _).mono ?_
            rintro e w10 ⟨rfl, hb10⟩
            have HC10 := Lib.hid (And.intro (HC9.out.next hb10) (HR2.out.trans (hb10.mono HR2.out.size)))
            clear v1 v2 HLO
            have v1 := (hb10.cell (lt_of_cell HWI.out.2.2.1)).trans HWI.out.2.2.1
            have v2 := (hb10.cell (lt_of_cell HWI.out.2.2.2.1)).trans HWI.out.2.2.2.1
            obtain ⟨m1, m2, _, _⟩ := HC10.out.1.1.at2
            have HUM := Lib.hid (HK.out.mkt.uses.below HC10.out.1.2)
            obtain ⟨aU, hUA, _, hcU⟩ := HUM.out.some_ (by have := (validM_iff.1 HP.out.2.1.1).1.2.2.2; omega)
            subst hUA
            have hiV : i < V.length := by have := (validM_iff.1 HP.out.2.1.1).1.2.2.2; omega
            obtain ⟨aR0, cR, hcR, _, _, hIR⟩ := hcU i _ (rowV_some hiV)
            have hrl : (rowV V i).length = k := by rw [HP.out.2.2.2.1]; exact (mkOk_of HP.out.2.1.1).2.1 i hiB
            rw [hrl] at hcR
            obtain ⟨aR, rfl, _, hcI⟩ := hIR.some_ (by rw [hrl]; omega)
            have hug : ∀ g, g < k → 0 ≤ useN V i g ∧ useN V i g ≤ 20 := fun g _ => (mkOk_of HP.out.2.1.1).2.2 i g
            have hcu : ∀ g, g < k → w10.cell? (aR.add g) = some (.int .i64 (useN V i g)) := fun g hg => hcI g _ (by
              unfold useN
              rw [List.getD_eq_getElem?_getD, List.getElem?_eq_getElem (by omega)]; rfl)
            have l1 : (i : Int) < (m : Int) := by have := HK.out.mkt.hV; omega
            have HU := Lib.hid (And.intro hug hcu)
            clear hcU hIR hcI hrl hug hcu HUM hiV
            go_wp2_with fail
            clear hcR m1 m2 v1 v2
            have HV10 := Lib.hid (And.intro ((hb10.cell (lt_of_cell HWI.out.2.2.1)).trans HWI.out.2.2.1) ((hb10.cell (lt_of_cell HWI.out.2.2.2.1)).trans HWI.out.2.2.2.1))
            clear hb10
            go_loopw [12, 13, 117] (fun sv bv iv wx => ∃ g : Nat, g ≤ k ∧ iv = .int .i64 g ∧ sv = .int .i64 (sumZ (fun g => useN V i g) g) ∧ bv = .bool (besTo V r.1 Wi b i g) ∧ Below w10.heap.size w10 wx) (fun _ _ iv _ => k - (intOf iv).toNat)
            case atStart => exact ⟨0, Nat.zero_le _, rfl, rfl, rfl, Below.refl _ _⟩
            case round =>
              obtain ⟨g, hg, rfl, rfl, rfl, hbl⟩ := hrel
              obtain ⟨wi, rfl⟩ : ∃ wi : World, wi = wr := ⟨_, rfl⟩
              have HR3 := Lib.hid hbl
              clear hbl
              have hs := sumZ_bd (f := fun g => useN V i g) (m := 20) (n := g) (fun j hj => HU.out.1 j (by omega))
              by_cases hgk : g < k
              · have hgG : g < goodsN V := by rw [← HP.out.2.2.2.1]; exact hgk
                have hge := fair_ge HP.out.2.1.1 HP.out.2.1.2 hiB hgG
                have hps := pri_sm HP.out.2.1.2 hgG
                have hx := HU.out.2 g hgk
                have c2 := (HR3.out.cell (lt_of_cell hx)).trans hx
                have hu := HU.out.1 g hgk
                have hgp : r.1[g]? = some (priQ r.1 g) := by
                  unfold priQ
                  rw [List.getD_eq_getElem?_getD, List.getElem?_eq_getElem (by rw [HP.out.2.2.1]; exact hgk)]; rfl
                obtain ⟨aP, hPA, _, hcP⟩ := ((HF8.out.1.below HC10.out.2).below HR3.out).some_ (by rw [HP.out.2.2.1]; omega)
                subst hPA
                obtain ⟨p1, p2⟩ := hcP g _ hgp
                have v1 := (HR3.out.cell (lt_of_cell HV10.out.1)).trans HV10.out.1
                have v2 := (HR3.out.cell (lt_of_cell HV10.out.2)).trans HV10.out.2
                have hnx : sumZ (fun g => useN V i g) (g + 1) = sumZ (fun g => useN V i g) g + useN V i g := rfl
                have hbx : besTo V r.1 Wi b i (g + 1) = (besTo V r.1 Wi b i g || decide (Wi * priQ r.1 g = ((useN V i g * b : Int) : Rat))) := rfl
                have hubd : 0 ≤ useN V i g * b ∧ useN V i g * b ≤ 400 := by
                  have h1 := Int.mul_nonneg hu.1 hb.1
                  have h2 : useN V i g * b ≤ 20 * 20 := Int.mul_le_mul hu.2 hb.2 hb.1 (by omega)
                  omega
                have hge' : ((useN V i g * b : Int) : Rat) ≤ Wi * priQ r.1 g := by
                  rw [HWI.out.1, HWI.out.2.1, Rat.intCast_mul]
                  exact hge
                have HQ := Lib.hid (And.intro hnx (And.intro hbx (And.intro hps (And.intro hge' (And.intro p1 (And.intro p2 (And.intro v1 v2)))))))
                clear hge hps hx hgp hcP p1 p2 v1 v2 hnx hbx hge' hgG
                generalize sumZ (fun g => useN V i g) g = s at *
                generalize besTo V r.1 Wi b i g = bt at *
                generalize useN V i g = u at *
                generalize priQ r.1 g = pg at *
                have hw : wrap64 (s + u) = s + u := w64 (by omega)
                obtain ⟨z, hz⟩ : ∃ z, z = u * b := ⟨_, rfl⟩
                have hwm : wrap64 (u * b) = z := by rw [hz]; exact w64 (by omega)
                rw [← hz] at hubd HQ
                have l3 : (g : Int) < (k : Int) := by omega
                have l4 : (0 : Int) ≤ (g : Int) := by omega
                have l5 : (i : Int) < (n : Int) := by omega
                have l6 : (0 : Int) ≤ (i : Int) := by omega
                clear hz
                go_upto_region 23 with fail
                have HMU := Lib.hid fun w' => wmul_use Wi pg w' HWI.out.2.2.2.2 HQ.out.2.2.1
                have hxs := wmul_sm HWI.out.2.2.2.2 HQ.out.2.2.1
                have hlx := HQ.out.2.2.2.1
                have hbx := HQ.out.2.1
                obtain ⟨x, hx⟩ : ∃ x, x = Wi * pg := ⟨_, rfl⟩
                rw [← hx] at HMU hxs hlx hbx
                have HLS := Lib.hid fun w' => wless_use x z w' hxs (by omega) hlx
                have HWH := Lib.hid fun w' => l4whole_use z w'
                have HBX := Lib.hid (And.intro HQ.out.1 hbx)
                have hqe := run_eq_frac7 x ((z : Int) : Rat)
                rw [Rat.num_intCast, Rat.den_intCast] at hqe
                have d1 : ∀ A' (s : DescA wi 37 #[.int .i64 0, .int .i64 0] A'), s.val.cell? (aW.add (i * 2)) = some (.int .i64 Wi.num) := fun A' s => s.cell HQ.out.2.2.2.2.2.2.1
                have d2 : ∀ A' (s : DescA wi 37 #[.int .i64 0, .int .i64 0] A'), s.val.cell? ⟨(aW.add (i * 2)).block, (aW.add (i * 2)).off + 1, none⟩ = some (.int .i64 (Wi.den : Int)) := fun A' s => s.cell HQ.out.2.2.2.2.2.2.2
                have d3 : ∀ A' (s : DescA wi 37 #[.int .i64 0, .int .i64 0] A'), s.val.cell? (aP.add (g * 2)) = some (.int .i64 pg.num) := fun A' s => s.cell HQ.out.2.2.2.2.1
                have d4 : ∀ A' (s : DescA wi 37 #[.int .i64 0, .int .i64 0] A'), s.val.cell? ⟨(aP.add (g * 2)).block, (aP.add (g * 2)).off + 1, none⟩ = some (.int .i64 (pg.den : Int)) := fun A' s => s.cell HQ.out.2.2.2.2.2.1
                have HD := Lib.hid (And.intro d1 (And.intro d2 (And.intro d3 d4)))
                have hws := HR3.out.size
                clear d1 d2 d3 d4 hxs hlx hbx c1 c2 hs hx
                refine' wp_region_desc_alloc 13 2 37 #[.int .i64 0, .int .i64 0] al_frac7 (by kernel_rfl) (by kernel_rfl) (by kernel_rfl) (by kernel_rfl) _ ?hh ?hq
                case hh =>
                  intro A' hne Q' hQ'
                  have e1 := HD.out.1 A'
                  have e2 := HD.out.2.1 A'
                  have e3 := HD.out.2.2.1 A'
                  have e4 := HD.out.2.2.2 A'
                  have HW2 : Hid (∀ sd : DescA wi 37 #[.int .i64 0, .int .i64 0] A', Calls Try.prog 20 #[.int .i64 z] sd.val fun e w'' => e = .returned (.agg #[.int .i64 z, .int .i64 1]) ∧ ∃ s' : DescA wi 37 #[.int .i64 0, .int .i64 0] A', w'' = s'.val) := Lib.hid fun sd => Calls.descA_of (HWH.out _)
                  have HM2 : Hid (∀ sd : DescA wi 37 #[.int .i64 0, .int .i64 0] A', Calls Try.prog 19 #[.agg #[.int .i64 Wi.num, .int .i64 (Wi.den : Int)], .agg #[.int .i64 pg.num, .int .i64 (pg.den : Int)]] sd.val fun e w'' => e = .returned (.agg #[.int .i64 x.num, .int .i64 (x.den : Int)]) ∧ ∃ s' : DescA wi 37 #[.int .i64 0, .int .i64 0] A', w'' = s'.val) := Lib.hid fun sd => Calls.descA_of (HMU.out _)
                  simp only [List.take_succ_cons, List.take_zero]
                  repeat (go_big_quiet_step (first | (go_at_call 20; exact HW2.out _) | (go_at_call 19; exact HM2.out _)))
                  refine wpQuiet_nil ?_
                  exact hQ'
                case hq =>
                  simp only [List.take_succ_cons, List.take_zero, List.drop_succ_cons, List.drop_zero]
                  intro g5 _ g6 hg6 sd
                  have hb3 := sd.below
                  obtain ⟨z5, B5⟩ := sd.blks g5 (.inr (.inl rfl))
                  obtain ⟨z6, B6⟩ := sd.blks g6 (.inl rfl)
                  have hne : g5 ≠ g6 := fun h => hg6 (.inl h.symm)
                  have hne2 : g6 ≠ g5 := fun h => hne h.symm
                  generalize sd.val = w4 at hb3 B5 B6 ⊢
                  obtain ⟨a0, a1, k0, k1⟩ := B5.at2
                  obtain ⟨b0, b1, m0, m1⟩ := B6.at2
                  have hb4 := ((((HR3.out.trans (hb3.mono hws)).setCell (p := ⟨g5, 0, none⟩) (by show w10.heap.size ≤ g5; omega) (.int .i64 x.num)).setCell (p := ⟨g5, 1, none⟩) (by show w10.heap.size ≤ g5; omega) (.int .i64 (x.den : Int))).setCell (p := ⟨g6, 0, none⟩) (by show w10.heap.size ≤ g6; omega) (.int .i64 z)).setCell (p := ⟨g6, 1, none⟩) (by show w10.heap.size ≤ g6; omega) (.int .i64 1)
                  have hX := ((((B5.set_ 0 (.int .i64 x.num)).set_ 1 (.int .i64 (x.den : Int))).far (p := ⟨g6, 0, none⟩) hne (.int .i64 z)).far (p := ⟨g6, 1, none⟩) hne (.int .i64 1))
                  have hY := (((B6.far (p := ⟨g5, 0, none⟩) hne2 (.int .i64 x.num)).far (p := ⟨g5, 1, none⟩) hne2 (.int .i64 (x.den : Int))).set_ 0 (.int .i64 z)).set_ 1 (.int .i64 1)
                  have H4 := Lib.hid (And.intro hb4 (And.intro hX (And.intro hY (And.intro hX.lt hY.lt))))
                  clear hb3 hb4 B5 B6 hg6 hX hY
                  unfold ptrB
                  go_wp2_with fail
                  refine (HLS.out _).mono ?_
                  rintro e w11 ⟨rfl, hb11⟩
                  have HB11 := Lib.hid (H4.out.1.trans (hb11.mono H4.out.1.size))
                  obtain ⟨x0, x1, _, _⟩ := (H4.out.2.1.below hb11 H4.out.2.2.2.1).at2
                  obtain ⟨y0, y1, _, _⟩ := (H4.out.2.2.1.below hb11 H4.out.2.2.2.2).at2
                  clear a0 a1 k0 k1 b0 b1 m0 m1 hb11 hne hne2
                  cases bt with
                  | true =>
                    go_wp2_with fail
                    go_roundw
                    case rel => exact ⟨g + 1, by omega, by go_num, by rw [HBX.out.1], by rw [HBX.out.2, Bool.true_or], HB11.out⟩
                    case measure => simp [intOf]; omega
                  | false =>
                    by_cases h1 : x.num = z
                    · by_cases h2 : (x.den : Int) = 1
                      · have hxz : decide (x = ((z : Int) : Rat)) = true := decide_eq_true (Rat.ext (by rw [Rat.num_intCast]; exact h1) (by rw [Rat.den_intCast]; omega))
                        rw [h1] at x0
                        rw [h2] at x1
                        have HXZ := Lib.hid hxz
                        clear h1 h2 hxz hqe
                        go_wp2_with fail
                        go_roundw
                        case rel => exact ⟨g + 1, by omega, by go_num, by rw [HBX.out.1], by rw [HBX.out.2, HXZ.out, Bool.false_or], HB11.out⟩
                        case measure => simp [intOf]; omega
                      · have hxz : decide (x = ((z : Int) : Rat)) = false := decide_eq_false (fun h => h2 (by rw [h, Rat.den_intCast]; rfl))
                        have HXZ := Lib.hid hxz
                        clear hxz hqe
                        go_wp2_with fail
                        go_roundw
                        case rel => exact ⟨g + 1, by omega, by go_num, by rw [HBX.out.1], by rw [HBX.out.2, HXZ.out, Bool.false_or], HB11.out⟩
                        case measure => simp [intOf]; omega
                    · have hxz : decide (x = ((z : Int) : Rat)) = false := decide_eq_false (fun h => h1 (by rw [h, Rat.num_intCast]))
                      have HXZ := Lib.hid hxz
                      clear hxz hqe
                      go_wp2_with fail
                      go_roundw
                      case rel => exact ⟨g + 1, by omega, by go_num, by rw [HBX.out.1], by rw [HBX.out.2, HXZ.out, Bool.false_or], HB11.out⟩
                      case measure => simp [intOf]; omega
              · obtain rfl : g = k := by omega
                obtain ⟨g0, hg0, hu0, heq, _⟩ := wor_form HP.out.2.1.1 HP.out.2.1.2 hiB
                have hbt : besTo V r.1 Wi b i g = true := besTo_of (g0 := g0) (by rw [HP.out.2.2.2.1]; exact hg0) (by rw [HWI.out.1, heq, HWI.out.2.1, Rat.intCast_mul]; rfl)
                have hsu := fair_sum HP.out.2.1.1 HP.out.2.1.2 hiB
                have hsu' : ((sumZ (fun g => useN V i g) g * b : Int) : Rat) ≤ Wi * ((all : Int) : Rat) := by
                  rw [HALL.out, HWI.out.1, HWI.out.2.1, Rat.intCast_mul, ← sumZ_Q, ← sumZ_Q, HP.out.2.2.2.1, ← hnB]
                  exact hsu
                rw [hbt]
                have hall2 := wall_use Wi all
                have hba : 0 ≤ all ∧ all ≤ 1000 := by omega
                have v1 := (HR3.out.cell (lt_of_cell HV10.out.1)).trans HV10.out.1
                have v2 := (HR3.out.cell (lt_of_cell HV10.out.2)).trans HV10.out.2
                generalize sumZ (fun g => useN V i g) g = s at *
                have hsb : 0 ≤ s * b ∧ s * b ≤ 1200 := by
                  have h1 := Int.mul_nonneg hs.1 hb.1
                  have h2 : s * b ≤ 60 * 20 := Int.mul_le_mul (by omega) hb.2 hb.1 (by omega)
                  omega
                obtain ⟨z, hz⟩ : ∃ z, z = s * b := ⟨_, rfl⟩
                have hwm : wrap64 (s * b) = z := by rw [hz]; exact w64 (by omega)
                rw [← hz] at hsb hsu'
                have hxs := (hall2 wi HWI.out.2.2.2.2 hba).2
                obtain ⟨x, hx⟩ : ∃ x, x = Wi * ((all : Int) : Rat) := ⟨_, rfl⟩
                rw [← hx] at hxs hsu'
                have HMU : Hid (∀ sd : Desc wi, Calls Try.prog 19 #[.agg #[.int .i64 Wi.num, .int .i64 (Wi.den : Int)], .agg #[.int .i64 all, .int .i64 1]] sd.val fun e w'' => e = .returned (.agg #[.int .i64 x.num, .int .i64 (x.den : Int)]) ∧ ∃ s' : Desc wi, w'' = s'.val) := Lib.hid fun sd => Calls.desc_of (by rw [hx]; exact (hall2 sd.val HWI.out.2.2.2.2 hba).1)
                have HWH : Hid (∀ (sd : Desc wi) (q : Int), Calls Try.prog 20 #[.int .i64 q] sd.val fun e w'' => e = .returned (.agg #[.int .i64 q, .int .i64 1]) ∧ ∃ s' : Desc wi, w'' = s'.val) := Lib.hid fun sd q => Calls.desc_of (l4whole_use q sd.val)
                have HLS : Hid (∀ sd : Desc wi, Calls Try.prog 22 #[.agg #[.int .i64 x.num, .int .i64 (x.den : Int)], .agg #[.int .i64 z, .int .i64 1]] sd.val fun e w'' => e = .returned (.bool false) ∧ ∃ s' : Desc wi, w'' = s'.val) := Lib.hid fun sd => Calls.desc_of (wless_use x z sd.val ⟨⟨hxs.1.1, by omega⟩, by omega⟩ (by omega) hsu')
                have d1 : ∀ sd : Desc wi, sd.val.cell? (aW.add (i * 2)) = some (.int .i64 Wi.num) := fun sd => sd.cell v1
                have d2 : ∀ sd : Desc wi, sd.val.cell? ⟨(aW.add (i * 2)).block, (aW.add (i * 2)).off + 1, none⟩ = some (.int .i64 (Wi.den : Int)) := fun sd => sd.cell v2
                have l5 : (i : Int) < (n : Int) := by omega
                have l6 : (0 : Int) ≤ (i : Int) := by omega
                clear hall2 v1 v2 hz hxs hsu hsu' heq hu0 hg0 hbt hx
                go_upto_region 28 with fail
                refine wp_region_desc (by kernel_rfl) (by kernel_rfl) ?_
                repeat (go_big_quiet_step (first | (go_at_call 20; exact HWH.out _ _) | (go_at_call 19; exact HMU.out _) | (go_at_call 22; exact HLS.out _)))
                refine wpQuiet_nil ?_
                rintro _ ⟨sd, rfl⟩
                have HBE := Lib.hid (HC10.out.2.trans ((HR3.out.trans (sd.below.mono HR3.out.size)).mono HC10.out.2.size))
                clear d1 d2
                go_wp2_with fail
                go_roundw
                case rel => exact ⟨i + 1, by omega, by go_num, HBE.out⟩
                case measure => simp [intOf]; omega
          · obtain rfl : n = i := by omega
            go_wp2_with fail
            refine (l4awake_any _).mono ?_
            rintro e w11 ⟨rfl, hb11⟩
            have HC11 := Lib.hid (HC9.out.next hb11)
            clear hb11
            go_wp2_with fail
            go_ret
            exact ⟨rfl, HC11.out.2⟩

/- MarketBalances: the walk. -/

theorem spsV_i64 {L : List (List (Int × Int))} (h : ∀ r ∈ L, I64s r) : ∀ r ∈ spsV L, I64s r := by
  intro r hr
  unfold spsV at hr
  obtain ⟨x, hx, rfl⟩ := List.mem_map.1 hr
  exact (h x (List.mem_of_mem_take hx)).take 6
theorem spsV_short (L : List (List (Int × Int))) : ∀ r ∈ spsV L, r.length ≤ 1000 := by
  intro r hr
  unfold spsV at hr
  obtain ⟨x, hx, rfl⟩ := List.mem_map.1 hr
  rw [List.length_take]; omega
set_option maxRecDepth 100000 in
set_option maxHeartbeats 4000000 in
theorem law_mbals (A : Option Addr) (n c : Nat) (U : Option Addr) (m d : Nat) (B : List Int) (V : List (List Int)) (P : Option Addr) (cp : Nat) (ps : List (Int × Int)) (S : Option Addr) (cs : Nat) (L : List (List (Int × Int))) (W : World) (hK : MktArg W A n c U m d B V)
    (hpc : ps.length ≤ cp) (hpm : cp ≤ 9223372036854775807) (hP : Prs W P ps) (hi : I64s ps) (hsc : L.length ≤ cs) (hsm : cs ≤ 9223372036854775807) (hS : CMat W S L) (hsi : ∀ r ∈ L, I64s r) :
    Calls Try.prog 13 #[mktV A n c U m d, .slice P ps.length cp, .slice S L.length cs] W fun e w' => e = .returned (.bool true) ∧ Below W.heap.size W w' := by
  have hC1 := Ch.start W A n c U m d
  obtain ⟨w1, hw1⟩ : ∃ w1, w1 = W.alloc (.cells #[.slice A n c, .slice U m d] 25) := ⟨_, rfl⟩
  rw [← hw1] at hC1
  obtain ⟨lp, hlp⟩ : ∃ lp, lp = ps.length := ⟨_, rfl⟩
  obtain ⟨ls, hls⟩ : ∃ ls, ls = L.length := ⟨_, rfl⟩
  rw [← hlp] at hpc ⊢
  rw [← hls] at hsc ⊢
  have HK := Lib.hid (And.intro hK (And.intro hP (And.intro hi (And.intro hlp (And.intro hS (And.intro hsi hls))))))
  have HC1 := Lib.hid hC1
  obtain ⟨m1, m2, _, _⟩ := hC1.1.at2
  clear hK hC1 hP hi hlp hS hsi hls
  unfold mktV
  go_enter Try.func13, Try.ntmps13
  go_wp2_with fail
  rw [← hw1]
  clear hw1
  refine ((HK.out.1.below HC1.out.2).of).mono ?_
  rintro e w2 ⟨A2, n2, c2, U2, q2, d2, b2, vs2, rfl, hO2⟩
  have HC2 := Lib.hid (HC1.out.next hO2.below)
  have HO2 := Lib.hid hO2
  clear hO2 m1 m2
  go_wp2_with fail
  refine (of_prices HO2.out).mono ?_
  intro ev w3 hpost
  unfold PricesPost at hpost
  obtain ⟨hb3, hpost⟩ := hpost
  have HC3 := Lib.hid (HC2.out.next hb3)
  clear hb3
  obtain ⟨m1, m2, _, _⟩ := HC3.out.1.at2
  cases hp : prF B V with
  | none =>
    rw [hp] at hpost
    subst hpost
    have hvf : validM B V = false := by
      cases hv : validM B V with
      | false => rfl
      | true =>
        obtain ⟨r, hr⟩ := found_any B V hv
        unfold prF at hp
        rw [if_pos hv, hr] at hp
        cases hp
    have HP := Lib.hid (And.intro hp hvf)
    clear hp hvf
    go_wp2_with fail
    refine ((HK.out.1.below HC3.out.2).of).mono ?_
    rintro e w4 ⟨A4, n4, c4, U4, q4, d4, b4, vs4, rfl, hO4⟩
    have HC4 := Lib.hid (HC3.out.next hO4.below)
    have HO4 := Lib.hid hO4
    clear hO4 m1 m2
    go_wp2_with fail
    refine (of_spend HO4.out).mono ?_
    intro ev w5 hpost
    unfold SpendPost at hpost
    rw [HP.out.1] at hpost
    obtain ⟨hb5, rfl⟩ := hpost
    have HC5 := Lib.hid (HC4.out.next hb5)
    obtain ⟨m1, m2, _, _⟩ := HC5.out.1.at2
    clear hb5
    go_wp2_with fail
    refine ((HK.out.1.below HC5.out.2).of).mono ?_
    rintro e w6 ⟨A6, n6, c6, U6, q6, d6, b6, vs6, rfl, hO6⟩
    have HC6 := Lib.hid (HC5.out.next hO6.below)
    have HO6 := Lib.hid hO6
    clear hO6 m1 m2
    go_wp2_with fail
    refine (l4prices_any P lp cp ps w6 HK.out.2.2.2.1.symm hpc hpm (HK.out.2.1.below HC6.out.2)).mono ?_
    rintro e w7 ⟨A7, c7, rfl, hown7, hb7⟩
    have HC7 := Lib.hid (HC6.out.next hb7)
    have hl7 : (ps.take 6).length = min lp 6 := by rw [List.length_take, HK.out.2.2.2.1]; omega
    obtain ⟨l7, hl7'⟩ : ∃ l7, l7 = min lp 6 := ⟨_, rfl⟩
    rw [← hl7'] at hl7 hown7 ⊢
    have h76 : l7 ≤ 6 := by omega
    have H7 := Lib.hid (And.intro (show Prs w7 A7 (ps.take 6) from At.of_own hown7) (And.intro hl7 hb7))
    clear hown7 hl7 hb7 hl7'
    go_wp2_with fail
    refine (l4spendings_any S ls cs L w7 HK.out.2.2.2.2.2.2.symm (by omega) (fun j ps hj => by
      obtain ⟨ad, A', c', h1, h2, h3, h4, h5⟩ := HK.out.2.2.2.2.1 j ps hj
      exact ⟨ad, A', c', h1, (HC7.out.2.cell (lt_of_cell h2)).trans h2, h3, h4, h5.below HC7.out.2⟩)).mono ?_
    rintro e w8 ⟨A8, q8, c8, rfl, hq8, hM8, hb8⟩
    have HC8 := Lib.hid (HC7.out.next hb8)
    have hq86 : q8 ≤ 6 := by rw [← hq8, spsV_length]; omega
    have HCK := Lib.hid (of_check HO6.out (H7.out.2.2.trans (hb8.mono H7.out.2.2.size)) A7 l7 c7 (ps.take 6) A8 q8 c8 (spsV L) (H7.out.1.below hb8) H7.out.2.1 (by omega) (HK.out.2.2.1.take 6) hM8 hq8 (by omega) (spsV_i64 HK.out.2.2.2.2.2.1) (spsV_short L))
    clear hq8 hM8 hb8
    go_wp2_with fail
    refine HCK.out.mono ?_
    rintro e w9 ⟨hb9, rfl⟩
    have HC9 := Lib.hid (HC8.out.next hb9)
    rw [HP.out.2]
    clear hb9
    go_wp2_with fail
    refine (l4awake_any _).mono ?_
    rintro e w10 ⟨rfl, hb10⟩
    have HC10 := Lib.hid (HC9.out.next hb10)
    clear hb10
    go_wp2_with fail
    go_ret
    exact ⟨rfl, HC10.out.2⟩
  | some r =>
    rw [hp] at hpost
    obtain ⟨PA, pc, rfl, hown3⟩ := hpost
    have hpr := prF_ok hp
    have hpl := hpr.2.lp
    have hg3 := (validM_iff.1 hpr.1).2.1
    have hn3 := (validM_iff.1 hpr.1).1
    obtain ⟨k, hk⟩ : ∃ k, k = goodsN V := ⟨_, rfl⟩
    rw [← hk] at hg3 hpl
    have hfr3 := Fracs.of_cells (At.of_own hown3)
    have HP := Lib.hid (And.intro hp (And.intro hpr (And.intro hpl (And.intro hk hn3))))
    have HF3 := Lib.hid hfr3
    rw [hpl]
    clear hp hpr hpl hk hown3 hfr3 hn3
    go_wp2_with fail
    refine ((HK.out.1.below HC3.out.2).of).mono ?_
    rintro e w4 ⟨A4, n4, c4, U4, q4, d4, b4, vs4, rfl, hO4⟩
    have HC4 := Lib.hid (HC3.out.next hO4.below)
    have HO4 := Lib.hid hO4
    have HF4 := Lib.hid (HF3.out.below hO4.below')
    clear hO4 m1 m2
    go_wp2_with fail
    refine (of_spend HO4.out).mono ?_
    intro ev w5 hpost
    unfold SpendPost at hpost
    rw [HP.out.1] at hpost
    obtain ⟨hb5, SA, sc, rfl, hm5⟩ := hpost
    have HC5 := Lib.hid (HC4.out.next hb5)
    have HF5 := Lib.hid (And.intro (HF4.out.below hb5) hm5)
    obtain ⟨sl, hsl⟩ : ∃ sl, sl = r.2.length := ⟨_, rfl⟩
    rw [← hsl]
    have HSL := Lib.hid (And.intro hsl (hsl.trans HP.out.2.1.2.ls))
    obtain ⟨m1, m2, _, _⟩ := HC5.out.1.at2
    clear hb5 hm5 hsl
    go_wp2_with fail
    refine ((HK.out.1.below HC5.out.2).of).mono ?_
    rintro e w6 ⟨A6, n6, c6, U6, q6, d6, b6, vs6, rfl, hO6⟩
    have HC6 := Lib.hid (HC5.out.next hO6.below)
    have HO6 := Lib.hid hO6
    have HF6 := Lib.hid (And.intro (HF5.out.1.below hO6.below') (HF5.out.2.below hO6.below'))
    clear hO6 m1 m2
    go_wp2_with fail
    refine (l4prices_any P lp cp ps w6 HK.out.2.2.2.1.symm hpc hpm (HK.out.2.1.below HC6.out.2)).mono ?_
    rintro e w7 ⟨A7, c7, rfl, hown7, hb7⟩
    have HC7 := Lib.hid (HC6.out.next hb7)
    have HF7 := Lib.hid (And.intro (HF6.out.1.below hb7) (HF6.out.2.below hb7))
    have hl7 : (ps.take 6).length = min lp 6 := by rw [List.length_take, HK.out.2.2.2.1]; omega
    obtain ⟨l7, hl7'⟩ : ∃ l7, l7 = min lp 6 := ⟨_, rfl⟩
    rw [← hl7'] at hl7 hown7 ⊢
    have h76 : l7 ≤ 6 := by omega
    have H7 := Lib.hid (And.intro (show Prs w7 A7 (ps.take 6) from At.of_own hown7) (And.intro hl7 hb7))
    clear hown7 hl7 hb7 hl7'
    go_wp2_with fail
    refine (l4spendings_any S ls cs L w7 HK.out.2.2.2.2.2.2.symm (by omega) (fun j ps hj => by
      obtain ⟨ad, A', c', h1, h2, h3, h4, h5⟩ := HK.out.2.2.2.2.1 j ps hj
      exact ⟨ad, A', c', h1, (HC7.out.2.cell (lt_of_cell h2)).trans h2, h3, h4, h5.below HC7.out.2⟩)).mono ?_
    rintro e w8 ⟨A8, q8, c8, rfl, hq8, hM8, hb8⟩
    have HC8 := Lib.hid (HC7.out.next hb8)
    have HF8 := Lib.hid (And.intro (HF7.out.1.below hb8) (HF7.out.2.below hb8))
    have hq86 : q8 ≤ 6 := by rw [← hq8, spsV_length]; omega
    have HCK := Lib.hid (of_check HO6.out (H7.out.2.2.trans (hb8.mono H7.out.2.2.size)) A7 l7 c7 (ps.take 6) A8 q8 c8 (spsV L) (H7.out.1.below hb8) H7.out.2.1 (by omega) (HK.out.2.2.1.take 6) hM8 hq8 (by omega) (spsV_i64 HK.out.2.2.2.2.2.1) (spsV_short L))
    clear hq8 hM8 hb8
    go_wp2_with fail
    refine HCK.out.mono ?_
    rintro e w9 ⟨hb9, rfl⟩
    have HC9 := Lib.hid (HC8.out.next hb9)
    have HF9 := Lib.hid (And.intro (HF8.out.1.below hb9) (HF8.out.2.below hb9))
    rw [if_pos HP.out.2.1.1]
    obtain ⟨ck, hck⟩ : ∃ b, b = chkB B V (ps.take 6) (spsV L) := ⟨_, rfl⟩
    rw [← hck]
    have HCB := Lib.hid hck
    obtain ⟨m1, m2, _, _⟩ := HC9.out.1.at2
    clear hb9 hck HCK
    go_wp2_with fail
    refine ((HK.out.1.below HC9.out.2).of).mono ?_
    rintro e w10 ⟨A10, n10, c10, U10, q10, d10, b10, vs10, rfl, hO10⟩
    have HC10 := Lib.hid (HC9.out.next hO10.below)
    have HO10 := Lib.hid hO10
    have HF10 := Lib.hid (And.intro (HF9.out.1.below hO10.below') (HF9.out.2.below hO10.below'))
    have hsl3 : sl ≤ 3 := by have := HP.out.2.2.2.2.2.1; have := HSL.out.2; omega
    have HC2K := Lib.hid (of_check HO10.out (Below.refl _ _) PA k pc (r.1.map pr) SA sl sc (r.2.map (·.map pr)) HF10.out.1 (by rw [List.length_map]; exact HP.out.2.2.1) (by omega) (prices_i64 HP.out.2.1.2.ps) HF10.out.2.pmat (by rw [List.length_map]; exact HSL.out.1.symm) (by omega) (fun x hx => sps_i64 HP.out.1 hx) (fun x hx => by
      obtain ⟨y, hy, rfl⟩ := List.mem_map.1 hx
      rw [List.length_map, HP.out.2.1.2.lr y hy, ← HP.out.2.2.2.1]; omega))
    clear hO10 m1 m2
    go_wp2_with fail
    refine HC2K.out.mono ?_
    rintro e w11 ⟨hb11, rfl⟩
    have HC11 := Lib.hid (HC10.out.next hb11)
    have HF11 := Lib.hid (HF10.out.1.below hb11)
    rw [if_pos HP.out.2.1.1, chk_sol HP.out.1]
    clear hb11 HC2K
    have hnB := HK.out.1.mkt.hB
    have hpk : ck = true → ps = r.1.map pr := fun h => by
      have h1 := chk_only HP.out.1 (HCB.out.symm.trans h)
      have h2 : (ps.take 6).length ≤ 3 := by rw [h1, List.length_map, HP.out.2.2.1]; omega
      rw [← h1, take_of_le h2]
    have HPK := Lib.hid hpk
    clear hpk
    go_upto_region 7 with fail
    go_cut [88] (fun bv wx => bv = .bool false ∧ Below w11.heap.size w11 wx)
    case first =>
      cases ck with
      | false =>
        go_wp2_with fail
        go_meet
        case rel => exact ⟨rfl, Below.refl _ _⟩
      | true =>
        have e1 := HPK.out rfl
        have hlk : lp = k := by rw [HK.out.2.2.2.1, e1, List.length_map]; exact HP.out.2.2.1
        have HEQ := Lib.hid (equalF_any PA P k lp pc cp r.1 r.1 w11 HP.out.2.2.1 (by rw [hlk]; exact HP.out.2.2.1) (by omega) HF11.out (by
          unfold Go.Proofs.Ytnljnjnmhbkdoaa.Fracs
          rw [← e1]
          exact HK.out.2.1.below HC11.out.2))
        clear e1 hlk
        go_wp2_with fail
        refine HEQ.out.mono ?_
        rintro e w12 ⟨rfl, m12, rfl⟩
        rw [show ∀ l : List Rat, eqB l l = true from fun l => decide_eq_true rfl]
        clear HEQ
        go_wp2_with fail
        go_meet
        case rel => exact ⟨rfl, below_drewN (Below.refl _ _) m12⟩
    obtain ⟨w12, rfl⟩ : ∃ w12 : World, w12 = wc := ⟨_, rfl⟩
    obtain ⟨rfl, hb12⟩ := hcut
    have HC12 := Lib.hid (HC11.out.next hb12)
    have HF12 := Lib.hid (HF11.out.below hb12)
    clear hb12
    go_wp2_with fail
    refine (l4whole_use 0 _).mono ?_
    rintro e w13 ⟨rfl, hb13⟩
    have HC13 := Lib.hid (HC12.out.next hb13)
    have HF13 := Lib.hid (HF12.out.below hb13)
    clear hb13
    go_wp2_with fail
    go_loopw [92] (fun iv wx => ∃ j : Nat, j ≤ k ∧ iv = .int .i64 j ∧ Blk wx w13.heap.size 37 #[.int .i64 (sumF (priQ r.1) j).num, .int .i64 ((sumF (priQ r.1) j).den : Int)] ∧ Below w13.heap.size w13 wx) (fun iv _ => k - (intOf iv).toNat)
    case atStart =>
      exact ⟨0, Nat.zero_le _, rfl, by show Blk _ _ _ #[.int .i64 0, .int .i64 1]; exact Blk.new _ _ _ rfl, (Below.refl _ _).alloc (Nat.le_refl _) _⟩
    case round =>
      obtain ⟨j, hj, rfl, hBk, hbl⟩ := hrel
      obtain ⟨wo, rfl⟩ : ∃ wo : World, wo = wr := ⟨_, rfl⟩
      by_cases hjk : j < k
      · have hjG : j < goodsN V := by rw [← HP.out.2.2.2.1]; exact hjk
        have hps := pri_sm HP.out.2.1.2 hjG
        have hgp : r.1[j]? = some (priQ r.1 j) := by
          unfold priQ
          rw [List.getD_eq_getElem?_getD, List.getElem?_eq_getElem (by rw [HP.out.2.2.1]; exact hjk)]; rfl
        obtain ⟨aP, hPA, _, hcP⟩ := (HF13.out.below hbl).some_ (by rw [HP.out.2.2.1]; omega)
        subst hPA
        obtain ⟨v1, v2⟩ := hcP j _ hgp
        have hlv := sumF_lv (f := priQ r.1) j (by omega) fun i hi => by
          have h := pri_sm HP.out.2.1.2 (show i < goodsN V by omega)
          exact ⟨by have := h.1; omega, by have := h.2.1; omega, by have := h.2.2; omega⟩
        have hspb : SpB (priQ r.1 j) := ⟨by have := hps.1; omega, by have := hps.2.1; omega, by have := hps.2.2; omega⟩
        have hnx : sumF (priQ r.1) (j + 1) = sumF (priQ r.1) j + priQ r.1 j := rfl
        have hadd := lv_add (by omega) hlv hspb
        generalize sumF (priQ r.1) j = s at *
        generalize priQ r.1 j = q at *
        have hbz : Below wo.heap.size wo (wo.alloc (.cells #[.int .i64 q.num, .int .i64 (q.den : Int)] 37)) := (Below.refl _ _).alloc (Nat.le_refl _) _
        have hBz := hBk.below hbz hBk.lt
        obtain ⟨y0, y1, f0, f1⟩ := hBz.at2
        have HADD : Hid (∀ w', Calls Try.prog 31 #[.agg #[.int .i64 s.num, .int .i64 (s.den : Int)], .agg #[.int .i64 q.num, .int .i64 (q.den : Int)]] w' fun e w'' => e = .returned (.agg #[.int .i64 (s + q).num, .int .i64 ((s + q).den : Int)]) ∧ Below w'.heap.size w' w'') := Lib.hid fun w' => radd_raw s q w' hadd.2.1.1 hadd.2.1.2 hadd.2.2.1.1 hadd.2.2.1.2 hadd.2.2.2.1
        have hqd := den_pos q
        obtain ⟨q1, q2, q3⟩ := hps
        have n1 : ¬ (q.den : Int) < 1 := by omega
        have n2 : ¬ (1048576 : Int) < (q.den : Int) := by omega
        have n3 : ¬ q.num < 1 := by omega
        have n4 : ¬ (1048576 : Int) < q.num := by omega
        have l3 : (j : Int) < (k : Int) := by omega
        have HQ := Lib.hid (And.intro hnx (And.intro hBz (And.intro (hbl.trans (hbz.mono hbl.size)) hBz.lt)))
        clear hgp hcP hlv hspb hnx hadd hbz hBz hBk hbl q1 q2 q3 hqd
        go_wp2_with fail
        refine (HADD.out _).mono ?_
        rintro e w15 ⟨rfl, hb15⟩
        have hB15 := HQ.out.2.1.below hb15 HQ.out.2.2.2
        have hbl15 := HQ.out.2.2.1.trans (hb15.mono HQ.out.2.2.1.size)
        have H15 := Lib.hid (And.intro ((hB15.set_ 0 (.int .i64 (s + q).num)).set_ 1 (.int .i64 ((s + q).den : Int))) ((hbl15.setCell (p := ⟨w13.heap.size, 0, none⟩) (Nat.le_refl _) (.int .i64 (s + q).num)).setCell (p := ⟨w13.heap.size, 1, none⟩) (Nat.le_refl _) (.int .i64 ((s + q).den : Int))))
        clear y0 y1 f0 f1 v1 v2
        obtain ⟨y0, y1, f0, f1⟩ := hB15.at2
        clear hB15 hbl15 hb15
        go_wp2_with fail
        go_roundw
        case rel => exact ⟨j + 1, by omega, by go_num, by rw [HQ.out.1]; exact H15.out.1, H15.out.2⟩
        case measure => simp [intOf]; omega
      · obtain rfl : j = k := by omega
        have hsum := sum_prices HP.out.1
        rw [← HP.out.2.2.2.1, hnB] at hsum
        rw [hsum, Rat.num_intCast, Rat.den_intCast] at hBk
        have hbd : ∀ i, i < n → 0 ≤ B.getD i 0 ∧ B.getD i 0 ≤ 20 := fun i hi => by
          have := HP.out.2.2.2.2.2.2.1 (B.getD i 0) (by
            rw [List.getD_eq_getElem?_getD, List.getElem?_eq_getElem (by omega)]
            exact List.getElem_mem _)
          omega
        have hgB : ∀ i, i < n → B[i]? = some (B.getD i 0) := fun i hi => by
          rw [List.getD_eq_getElem?_getD, List.getElem?_eq_getElem (by omega)]; rfl
        have hn13 : 1 ≤ n ∧ n ≤ 3 := by have := HP.out.2.2.2.2; omega
        have HC14 := Lib.hid (HC13.out.next hbl)
        obtain ⟨aB, hA, hAl, hcB⟩ := (HK.out.1.below HC14.out.2).mkt.budgets.some_ (by omega)
        subst hA
        have HB := Lib.hid (And.intro hcB (And.intro hbd hgB))
        have HBK := Lib.hid hBk
        obtain ⟨m1, m2, _, _⟩ := HC14.out.1.at2
        clear hsum hBk hbl hbd hgB hAl hcB
        go_wp2_with fail
        clear m1 m2
        go_loopw [16, 121] (fun av iv wx => ∃ i : Nat, i ≤ n ∧ iv = .int .i64 i ∧ av = .int .i64 (sumZ (fun i => B.getD i 0) i) ∧ Below wo.heap.size wo wx) (fun _ iv _ => n - (intOf iv).toNat)
        case atStart => exact ⟨0, Nat.zero_le _, rfl, rfl, Below.refl _ _⟩
        case round =>
          obtain ⟨i, hi, rfl, rfl, hbl⟩ := hrel
          have HR := Lib.hid hbl
          clear hbl
          by_cases hin : i < n
          · have hx := HB.out.1 i _ (HB.out.2.2 i hin)
            have c1 := (HR.out.cell (lt_of_cell hx)).trans hx
            have hs := sumZ_bd (f := fun i => B.getD i 0) (m := 20) (n := i) (fun j hj => HB.out.2.1 j (by omega))
            have hb := HB.out.2.1 i hin
            have hnx : sumZ (fun i => B.getD i 0) (i + 1) = sumZ (fun i => B.getD i 0) i + B.getD i 0 := rfl
            have HN := Lib.hid hnx
            obtain ⟨s, hse⟩ : ∃ s, s = sumZ (fun i => B.getD i 0) i := ⟨_, rfl⟩
            obtain ⟨b, hbe⟩ : ∃ b, b = B.getD i 0 := ⟨_, rfl⟩
            rw [← hse] at hs HN ⊢
            rw [← hbe] at hb c1 HN
            have hw : wrap64 (s + b) = s + b := w64 (by omega)
            clear hnx hx hse hbe
            go_wp2_with fail
            go_roundw
            case rel => exact ⟨i + 1, by omega, by go_num, by rw [HN.out], HR.out⟩
            case measure => simp [intOf]; omega
          · obtain rfl : n = i := by omega
            have hBw := HBK.out.below HR.out HBK.out.lt
            obtain ⟨y0, y1, _, _⟩ := hBw.at2
            generalize sumZ (fun i => B.getD i 0) n = all at *
            have d1 : ∀ s : Desc wr, s.val.cell? ⟨w13.heap.size, 0, none⟩ = some (.int .i64 all) := fun s => s.cell y0
            have d2 : ∀ s : Desc wr, s.val.cell? ⟨w13.heap.size, 1, none⟩ = some (.int .i64 1) := fun s => s.cell y1
            have HWH : Hid (∀ sd : Desc wr, Calls Try.prog 20 #[.int .i64 all] sd.val fun e w'' => e = .returned (.agg #[.int .i64 all, .int .i64 1]) ∧ ∃ s' : Desc wr, w'' = s'.val) := Lib.hid fun sd => Calls.desc_of (l4whole_use all sd.val)
            have HAW : Hid (∀ sd : Desc wr, Calls Try.prog 17 #[] sd.val fun e w'' => e = .returned (.bool true) ∧ ∃ s' : Desc wr, w'' = s'.val) := Lib.hid fun sd => Calls.desc_of (l4awake_any sd.val)
            have hws := HR.out.size
            clear y0 y1 hBw
            go_upto_region 22 with fail
            refine wp_region_desc (by kernel_rfl) (by kernel_rfl) ?_
            repeat (go_big_quiet_step (first | (go_at_call 20; exact HWH.out _) | (go_at_call 17; exact HAW.out _)))
            refine wpQuiet_nil ?_
            rintro _ ⟨sd, rfl⟩
            have HBE := Lib.hid (HC14.out.2.trans ((HR.out.trans (sd.below.mono hws)).mono HC14.out.2.size))
            clear d1 d2
            go_wp2_with fail
            go_ret
            exact ⟨rfl, HBE.out⟩

/- Sets of pairs, as the reference's solver reads them: plain laws, by trying all. -/

/-- One pair of part's sweep. -/
def partG (n k set : Nat) (met i : Nat) : Nat → Nat
  | 0 => met
  | g + 1 => let m := partG n k set met i g; if set.testBit (i * k + g) && (m &&& (2 ^ i ||| 2 ^ (n + g)) != 0) then m ||| (2 ^ i ||| 2 ^ (n + g)) else m
def partI (n k set : Nat) (met : Nat) : Nat → Nat
  | 0 => met
  | i + 1 => partG n k set (partI n k set met i) i k
def partR (n k set : Nat) (met : Nat) : Nat → Nat
  | 0 => met
  | r + 1 => partI n k set (partR n k set met r) n
/-- The nodes that pairs connect with a node. -/
def partF (n k set node : Nat) : Nat := partR n k set (2 ^ node) (n + k)
/-- A set without one pair. -/
def clr (set b : Nat) : Nat := if set.testBit b then set - 2 ^ b else set
/-- What forest says of the pairs alone. -/
def pairOk (n k set i g : Nat) : Bool := !(set.testBit (i * k + g)) || !((partF n k (clr set (i * k + g)) i).testBit (n + g))
def nodeOk (n k set x : Nat) : Bool := partF n k set x != 2 ^ x
def forB (n k set : Nat) : Bool := ((List.range n).all fun i => (List.range k).all fun g => pairOk n k set i g) && (List.range (n + k)).all (nodeOk n k set)
/-- Every buyer and every good has a pair. -/
def covB (n k set : Nat) : Bool := ((List.range n).all fun i => (List.range k).any fun g => set.testBit (i * k + g)) && (List.range k).all fun g => (List.range n).any fun i => set.testBit (i * k + g)
/-- The goods whose relative price is known. -/
def domH (k set i : Nat) (m g : Nat) : Nat → Nat
  | 0 => m
  | h + 1 => let d := domH k set i m g h; if set.testBit (i * k + g) && (set.testBit (i * k + h) && (d.testBit g && !d.testBit h)) then d ||| 2 ^ h else d
def domG (k set i : Nat) (m : Nat) : Nat → Nat
  | 0 => m
  | g + 1 => domH k set i (domG k set i m g) g k
def domI (k set : Nat) (m : Nat) : Nat → Nat
  | 0 => m
  | i + 1 => domG k set i (domI k set m i) k
def domR (n k set : Nat) (m : Nat) : Nat → Nat
  | 0 => m
  | r + 1 => domI k set (domR n k set m r) n
def domF (n k set first : Nat) : Nat := domR n k set (2 ^ first) (n + k)
/-- Along each pair, the buyer is in the part just if the good's price is known. -/
def clsB (n k set first : Nat) : Bool := (List.range n).all fun i => (List.range k).all fun g => !(set.testBit (i * k + g)) || ((partF n k set (n + first)).testBit i == (domF n k set first).testBit g)
def disB (n k set first : Nat) : Bool := (List.range first).all fun f => (domF n k set f).testBit first || (domF n k set f &&& domF n k set first == 0)
def oneP (n k e : Nat) : Bool := ((hasCyc n k e || !(covB n k e)) || forB n k e) && (List.range k).all fun f => clsB n k e f && disB n k e f
def allP (n k a N : Nat) : Bool := (List.range N).all fun e => oneP n k (a + e)
set_option maxRecDepth 100000 in
theorem allP11 : allP 1 1 0 2 = true := by decide +kernel
set_option maxRecDepth 100000 in
theorem allP12 : allP 1 2 0 4 = true := by decide +kernel
set_option maxRecDepth 100000 in
theorem allP13 : allP 1 3 0 8 = true := by decide +kernel
set_option maxRecDepth 100000 in
theorem allP21 : allP 2 1 0 4 = true := by decide +kernel
set_option maxRecDepth 100000 in
theorem allP22 : allP 2 2 0 16 = true := by decide +kernel
set_option maxRecDepth 100000 in
theorem allP23 : allP 2 3 0 64 = true := by decide +kernel
set_option maxRecDepth 100000 in
theorem allP31 : allP 3 1 0 8 = true := by decide +kernel
set_option maxRecDepth 100000 in
theorem allP32 : allP 3 2 0 64 = true := by decide +kernel

/- Contracts: part and Quo of the reference's solver. -/

theorem part_lt {n k set : Nat} : ∀ {N : Nat}, n + k ≤ N → ∀ {met : Nat}, met < 2 ^ N → (∀ i g, i < n → g ≤ k → partG n k set met i g < 2 ^ N) := by
  intro N hN met hm i g hi
  induction g with
  | zero => intro _; exact hm
  | succ g ih =>
    intro hg
    simp only [partG]
    have h := ih (by omega)
    split
    · exact Nat.or_lt_two_pow h (Nat.or_lt_two_pow (Nat.pow_lt_pow_right (by omega) (by omega)) (Nat.pow_lt_pow_right (by omega) (by omega)))
    · exact h
theorem partI_lt {n k set N : Nat} (hN : n + k ≤ N) {met : Nat} (hm : met < 2 ^ N) : ∀ i, i ≤ n → partI n k set met i < 2 ^ N := by
  intro i
  induction i with
  | zero => intro _; exact hm
  | succ i ih => intro hi; exact part_lt hN (ih (by omega)) i k (by omega) (Nat.le_refl _)
theorem partR_lt {n k set N : Nat} (hN : n + k ≤ N) {met : Nat} (hm : met < 2 ^ N) : ∀ r, partR n k set met r < 2 ^ N := by
  intro r
  induction r with
  | zero => exact hm
  | succ r ih => exact partI_lt hN ih n (Nat.le_refl _)
theorem pow6 {x : Nat} (hx : x < 6) : 2 ^ x < 64 := by
  have : (2 : Nat) ^ x < 2 ^ 6 := Nat.pow_lt_pow_right (by omega) hx
  simpa using this
theorem and64 {m z : Nat} (hm : m < 64) (hz : z < 64) : bits .and .i64 (m : Int) (z : Int) = ((m &&& z : Nat) : Int) := and_nat m z (by omega) (by omega)
theorem or64 {m z : Nat} (hm : m < 64) (hz : z < 64) : bits .or .i64 (m : Int) (z : Int) = ((m ||| z : Nat) : Int) := or_nat m z (by omega) (by omega)
theorem shr_f {set b : Nat} (h : set < 512) (hb : set.testBit b = false) : (bits .and .i64 ((set : Int) / 2 ^ b) 1 == 1) = false := and_shr_f (by omega) hb
theorem shr_t {set b : Nat} (h : set < 512) (hb : set.testBit b = true) : (bits .and .i64 ((set : Int) / 2 ^ b) 1 == 1) = true := and_shr_t (by omega) hb
set_option maxRecDepth 100000 in
set_option maxHeartbeats 1600000 in
theorem r4part_any (n k set node : Nat) (hn : 1 ≤ n ∧ n ≤ 3) (hk : 1 ≤ k ∧ k ≤ 3) (hs : set < 512) (hx : node < 6) (w : World) :
    Calls Try.prog 62 #[.int .i64 n, .int .i64 k, .int .i64 set, .int .i64 node] w fun e w' => e = .returned (.int .i64 (partF n k set node : Nat)) ∧ Below w.heap.size w w' := by
  have e0 := pow_wrap node (by omega)
  have e0' : wrap64 ((2 : Int) ^ node) = ((2 ^ node : Nat) : Int) := by rw [← wrapEq]; exact e0
  obtain ⟨X0, hX0⟩ : ∃ X0, X0 = 2 ^ node := ⟨_, rfl⟩
  have hXl : X0 < 64 := by rw [hX0]; exact pow6 hx
  rw [← hX0] at e0 e0'
  have hF : partF n k set node = partR n k set X0 (n + k) := by rw [hX0]; rfl
  have HF := Lib.hid hF
  obtain ⟨S, hS⟩ : ∃ S, S = n + k := ⟨_, rfl⟩
  have hSw : (n : Int) + (k : Int) = (S : Int) := by omega
  rw [← hS] at HF
  have HL := Lib.hid fun r => partR_lt (n := n) (k := k) (set := set) (N := 6) (by omega) (met := X0) (by simpa using hXl) r
  clear hF hX0 hS
  go_enter Try.func62, Try.ntmps62
  go_wp2_with fail
  go_loopw [9, 17] (fun mv rv wx => ∃ r : Nat, r ≤ S ∧ rv = .int .i64 r ∧ mv = .int .i64 (partR n k set X0 r : Nat) ∧ Below w.heap.size w wx) (fun _ rv _ => S - (intOf rv).toNat)
  case atStart => exact ⟨0, Nat.zero_le _, rfl, rfl, Below.refl _ _⟩
  case round =>
    obtain ⟨r, hr, rfl, rfl, hbl⟩ := hrel
    obtain ⟨wo, rfl⟩ : ∃ wo : World, wo = wr := ⟨_, rfl⟩
    have HR := Lib.hid hbl
    clear hbl
    by_cases hrS : r < S
    · have l1 : (r : Int) < (S : Int) := by omega
      have hml := HL.out r
      have hnx : partR n k set X0 (r + 1) = partI n k set (partR n k set X0 r) n := rfl
      have HN := Lib.hid hnx
      obtain ⟨M0, hM0⟩ : ∃ M, M = partR n k set X0 r := ⟨_, rfl⟩
      rw [← hM0] at hml HN ⊢
      have HLI := Lib.hid fun i (hi : i ≤ n) => partI_lt (n := n) (k := k) (set := set) (N := 6) (by omega) hml i hi
      clear hnx hM0
      go_wp2_with fail
      go_loopw [9, 20] (fun mv iv wx => ∃ i : Nat, i ≤ n ∧ iv = .int .i64 i ∧ mv = .int .i64 (partI n k set M0 i : Nat) ∧ Below w.heap.size w wx) (fun _ iv _ => n - (intOf iv).toNat)
      case atStart => exact ⟨0, Nat.zero_le _, rfl, rfl, HR.out⟩
      case round =>
        obtain ⟨i, hi, rfl, rfl, hbl⟩ := hrel
        obtain ⟨wi, rfl⟩ : ∃ wo : World, wo = wr := ⟨_, rfl⟩
        have HI := Lib.hid hbl
        clear hbl
        by_cases hin : i < n
        · have l2 : (i : Int) < (n : Int) := by omega
          have hml2 := HLI.out i (by omega)
          have hnx : partI n k set M0 (i + 1) = partG n k set (partI n k set M0 i) i k := rfl
          have HN2 := Lib.hid hnx
          obtain ⟨M1, hM1⟩ : ∃ M, M = partI n k set M0 i := ⟨_, rfl⟩
          rw [← hM1] at hml2 HN2 ⊢
          have HLG := Lib.hid fun g (hg : g ≤ k) => part_lt (n := n) (k := k) (set := set) (N := 6) (by omega) hml2 i g hin hg
          clear hnx hM1
          go_wp2_with fail
          go_loopw [9, 24] (fun mv gv wx => ∃ g : Nat, g ≤ k ∧ gv = .int .i64 g ∧ mv = .int .i64 (partG n k set M1 i g : Nat) ∧ Below w.heap.size w wx) (fun _ gv _ => k - (intOf gv).toNat)
          case atStart => exact ⟨0, Nat.zero_le _, rfl, rfl, HI.out⟩
          case round =>
            obtain ⟨g, hg, rfl, rfl, hbl⟩ := hrel
            obtain ⟨wg, rfl⟩ : ∃ wo : World, wo = wr := ⟨_, rfl⟩
            have HG := Lib.hid hbl
            clear hbl
            by_cases hgk : g < k
            · have l3 : (g : Int) < (k : Int) := by omega
              have hml3 := HLG.out g (by omega)
              have hnx : partG n k set M1 i (g + 1) = if set.testBit (i * k + g) && (partG n k set M1 i g &&& (2 ^ i ||| 2 ^ (n + g)) != 0) then partG n k set M1 i g ||| (2 ^ i ||| 2 ^ (n + g)) else partG n k set M1 i g := rfl
              obtain ⟨m, hm⟩ : ∃ M, M = partG n k set M1 i g := ⟨_, rfl⟩
              rw [← hm] at hml3 hnx ⊢
              obtain ⟨P, hP, hP2⟩ : ∃ P : Nat, (P : Int) = (i : Int) * (k : Int) ∧ P = i * k := ⟨i * k, by push_cast; rfl, rfl⟩
              have hPb : P ≤ 6 := by rw [hP2]; have := Nat.mul_le_mul (show i ≤ 2 by omega) hk.2; omega
              obtain ⟨J, hJ⟩ : ∃ J, J = P + g := ⟨_, rfl⟩
              obtain ⟨N, hN⟩ : ∃ N, N = n + g := ⟨_, rfl⟩
              have hPw : (i : Int) * (k : Int) = (P : Int) := hP.symm
              have hJw : (P : Int) + (g : Int) = (J : Int) := by omega
              have hNw : (n : Int) + (g : Int) = (N : Int) := by omega
              have e1 := pow_wrap i (by omega)
              have e1' : wrap64 ((2 : Int) ^ i) = ((2 ^ i : Nat) : Int) := by rw [← wrapEq]; exact e1
              have e2 := pow_wrap N (by omega)
              have e2' : wrap64 ((2 : Int) ^ N) = ((2 ^ N : Nat) : Int) := by rw [← wrapEq]; exact e2
              have hXi := pow6 (x := i) (by omega)
              have hYi := pow6 (x := N) (by omega)
              rw [← hP2, ← hJ, ← hN] at hnx
              obtain ⟨X, hXe⟩ : ∃ X, X = 2 ^ i := ⟨_, rfl⟩
              obtain ⟨Y, hYe⟩ : ∃ Y, Y = 2 ^ N := ⟨_, rfl⟩
              rw [← hXe] at e1 e1' hXi hnx
              rw [← hYe] at e2 e2' hYi hnx
              have hor := or64 hXi hYi
              have hZl : X ||| Y < 64 := Nat.or_lt_two_pow (n := 6) hXi hYi
              obtain ⟨Z, hZ⟩ : ∃ Z, Z = X ||| Y := ⟨_, rfl⟩
              rw [← hZ] at hor hZl hnx
              have hm64 : m < 64 := hml3
              have han := and64 hm64 hZl
              have hor2 := or64 hm64 hZl
              have HN3 := Lib.hid hnx
              clear hnx hml3 hm hP hP2 hJ hN hXe hYe hZ
              cases hb : set.testBit J with
              | false =>
                have hbt := shr_f hs hb
                rw [hb, Bool.false_and, if_neg (by decide)] at HN3
                clear hb
                go_wp2_with fail
                go_quiet (fail)
                go_wp2_with fail
                go_roundw
                case rel => exact ⟨g + 1, by omega, by go_num, by rw [HN3.out], below_drewN HG.out _⟩
                case measure => simp [intOf]; omega
              | true =>
                have hbt := shr_t hs hb
                rw [hb, Bool.true_and] at HN3
                clear hb
                by_cases hz : m &&& Z = 0
                · rw [hz] at han HN3
                  rw [if_neg (by decide)] at HN3
                  have hz2 : ((0 : Nat) : Int) = 0 := rfl
                  clear hz
                  go_wp2_with fail
                  go_quiet (fail)
                  go_wp2_with fail
                  go_roundw
                  case rel => exact ⟨g + 1, by omega, by go_num, by rw [HN3.out], below_drewN HG.out _⟩
                  case measure => simp [intOf]; omega
                · have hz0 : (m &&& Z != 0) = true := by simpa using hz
                  rw [hz0, if_pos rfl] at HN3
                  obtain ⟨z, hze⟩ : ∃ z, z = m &&& Z := ⟨_, rfl⟩
                  rw [← hze] at han hz
                  have hzi : ((z : Int) != 0) = true := by rw [bne_iff_ne]; omega
                  have hzi2 : ¬ (z : Int) = 0 := by omega
                  obtain ⟨m', hme⟩ : ∃ z, z = m ||| Z := ⟨_, rfl⟩
                  rw [← hme] at hor2 HN3
                  clear hz0 hze hme
                  go_wp2_with fail
                  go_quiet (fail)
                  go_wp2_with fail
                  go_quiet (fail)
                  go_wp2_with fail
                  go_roundw
                  case rel => exact ⟨g + 1, by omega, by go_num, by rw [HN3.out], by first | exact below_drewN (below_drewN HG.out _) _ | exact below_drewN HG.out _⟩
                  case measure => simp [intOf]; omega
            · obtain rfl : k = g := by omega
              go_wp2_with fail
              go_roundw
              case rel => exact ⟨i + 1, by omega, by go_num, by rw [HN2.out], HG.out⟩
              case measure => simp [intOf]; omega
        · obtain rfl : n = i := by omega
          go_wp2_with fail
          go_roundw
          case rel => exact ⟨r + 1, by omega, by go_num, by rw [HN.out], HI.out⟩
          case measure => simp [intOf]; omega
    · obtain rfl : S = r := by omega
      go_wp2_with fail
      go_ret
      exact ⟨by rw [HF.out]; rfl, HR.out⟩
theorem div_divInt (p q : Rat) (hq : 0 < q.num) : Rat.divInt (p.num * q.den) (p.den * q.num) = p / q := by
  have h1 := den_pos p
  have h2 := den_pos q
  rw [Rat.divInt_eq_div, Rat.intCast_mul, Rat.intCast_mul]
  have hp := Rat.divInt_eq_div p.num p.den
  have hq' := Rat.divInt_eq_div q.num q.den
  rw [Rat.num_divInt_den] at hp hq'
  have a1 : ((p.den : Int) : Rat) ≠ 0 := by
    have : (p.den : Int) ≠ 0 := by omega
    exact_mod_cast this
  have a2 : ((q.den : Int) : Rat) ≠ 0 := by
    have : (q.den : Int) ≠ 0 := by omega
    exact_mod_cast this
  have a3 : ((q.num : Int) : Rat) ≠ 0 := by
    have : (q.num : Int) ≠ 0 := by omega
    exact_mod_cast this
  generalize (p.num : Rat) = pn at *
  generalize ((p.den : Int) : Rat) = pd at *
  generalize (q.num : Rat) = qn at *
  generalize ((q.den : Int) : Rat) = qd at *
  subst hp
  subst hq'
  grind
set_option maxHeartbeats 400000 in
theorem rquo_raw (p q : Rat) (w : World) (hq : 0 < q.num) (h1 : -4000000000000000000 ≤ p.num * q.den) (h2 : p.num * q.den ≤ 4000000000000000000) (h5 : (p.den : Int) * q.num ≤ 4000000000000000000) :
    Calls Try.prog 51 #[fr p, fr q] w fun e w' => e = .returned (fr (p / q)) ∧ Below w.heap.size w w' := by
  have hd : 0 < (p.den : Int) * q.num := Int.mul_pos (den_pos p) hq
  have HL := Lib.hid (div_divInt p q hq)
  generalize hR : fr (p / q) = R
  have HR := Lib.hid hR
  clear hR
  unfold fr
  go_enter Try.func51, Try.ntmps51
  go_wp2_with fail
  refine (rof_any _ _ _ (by omega) (by omega) (by omega) (by omega)).mono ?_
  rintro e w' ⟨rfl, hb⟩
  rw [HL.out]
  have hB : Blk w' (w.heap.size + 1 + 1) 37 #[.int .i64 0, .int .i64 0] := (Blk.new _ _ _ (by simp)).below hb (by simp)
  obtain ⟨c0, c1, f0, f1⟩ := hB.at2
  have HB := Lib.hid hb
  clear hb hB
  unfold fr
  go_wp2
  refine bodyPost_ret (v := R) (by simp [results, Try.results51, go_sem, ← HR.out, fr, c0, c1]) rfl ⟨rfl, ?_⟩
  exact ((((((Below.refl _ _).alloc (by go_size) _).alloc (by go_size) _).alloc (by go_size) _).trans (HB.out.mono (by go_size))).setCell (by go_size) _).setCell (by go_size) _

/- Contract: forest of the reference's solver. -/

def andNotB (a N : Nat) : Bool := (List.range N).all fun s => (List.range 9).all fun b => decide (bits .andNot .i64 ((a + s : Nat) : Int) ((2 ^ b : Nat) : Int) = ((clr (a + s) b : Nat) : Int))
set_option maxRecDepth 100000 in
theorem andNotB0 : andNotB 0 128 = true := by decide +kernel
set_option maxRecDepth 100000 in
theorem andNotB1 : andNotB 128 128 = true := by decide +kernel
set_option maxRecDepth 100000 in
theorem andNotB2 : andNotB 256 128 = true := by decide +kernel
set_option maxRecDepth 100000 in
theorem andNotB3 : andNotB 384 128 = true := by decide +kernel
theorem andNot_clr {s b : Nat} (hs : s < 512) (hb : b < 9) : bits .andNot .i64 (s : Int) ((2 ^ b : Nat) : Int) = ((clr s b : Nat) : Int) := by
  have key : ∀ a, andNotB a 128 = true → a ≤ s → s < a + 128 → bits .andNot .i64 (s : Int) ((2 ^ b : Nat) : Int) = ((clr s b : Nat) : Int) := fun a h h1 h2 => by
    have h3 := List.all_eq_true.1 (List.all_eq_true.1 h (s - a) (List.mem_range.2 (by omega))) b (List.mem_range.2 hb)
    rw [show a + (s - a) = s by omega] at h3
    exact of_decide_eq_true h3
  rcases Nat.lt_or_ge s 128 with h | h
  · exact key 0 andNotB0 (by omega) (by omega)
  rcases Nat.lt_or_ge s 256 with h | h
  · exact key 128 andNotB1 (by omega) (by omega)
  rcases Nat.lt_or_ge s 384 with h | h
  · exact key 256 andNotB2 (by omega) (by omega)
  · exact key 384 andNotB3 (by omega) (by omega)
theorem clr_lt {s b : Nat} (hs : s < 512) : clr s b < 512 := by have := Nat.sub_le s (2 ^ b); unfold clr; split <;> omega
/-- What forest says. -/
def edgeOk (V : List (List Int)) (n k set i g : Nat) : Bool := !(set.testBit (i * k + g)) || (useN V i g != 0 && !((partF n k (clr set (i * k + g)) i).testBit (n + g)))
def forestF (V : List (List Int)) (n k set : Nat) : Bool := ((List.range n).all fun i => (List.range k).all fun g => edgeOk V n k set i g) && (List.range (n + k)).all (nodeOk n k set)
theorem partF_lt {n k set node : Nat} (h : n + k ≤ 6) (hx : node < 6) : partF n k set node < 64 := partR_lt (N := 6) h (Nat.pow_lt_pow_right (by omega) hx) _
theorem bit64_t {m b : Nat} (h : m < 64) (hb : m.testBit b = true) : (bits .and .i64 ((m : Int) / 2 ^ b) 1 == 1) = true := and_shr_t (by omega) hb
theorem bit64_f {m b : Nat} (h : m < 64) (hb : m.testBit b = false) : (bits .and .i64 ((m : Int) / 2 ^ b) 1 == 1) = false := and_shr_f (by omega) hb
theorem shr0_t {set b : Nat} (h : set < 512) (hb : set.testBit b = false) : (bits .and .i64 ((set : Int) / 2 ^ b) 1 == 0) = true := by rw [and_shr set b (by omega), hb]; rfl
theorem shr0_f {set b : Nat} (h : set < 512) (hb : set.testBit b = true) : (bits .and .i64 ((set : Int) / 2 ^ b) 1 == 0) = false := by rw [and_shr set b (by omega), hb]; rfl
set_option maxRecDepth 100000 in
set_option maxHeartbeats 1600000 in
theorem r4forest_any (A : Option Addr) (n c : Nat) (U : Option Addr) (d k set : Nat) (B : List Int) (V : List (List Int)) (w : World) (h : MkIn w A n U k B V) (hs : set < 512) :
    Calls Try.prog 43 #[.agg #[.slice A n c, .slice U n d], .int .i64 n, .int .i64 k, .int .i64 set] w fun e w' => e = .returned (.bool (forestF V n k set)) ∧ Below w.heap.size w w' := by
  have hn := h.hn
  have hk := h.hk
  obtain ⟨w1, hw1⟩ : ∃ w1, w1 = w.alloc (.cells #[.slice A n c, .slice U n d] 25) := ⟨_, rfl⟩
  have hb1 : Below w.heap.size w w1 := by rw [hw1]; exact (Below.refl _ _).alloc (Nat.le_refl _) _
  have hM1 : Blk w1 w.heap.size 25 #[.slice A n c, .slice U n d] := by rw [hw1]; exact Blk.new _ _ _ rfl
  obtain ⟨aU, rfl, _, _⟩ := h.mkt.uses.some_ (by rw [h.mkt.hV]; omega)
  have hrow : ∀ i, i < n → (rowV V i).length = k := fun i hi => (rowOk_iff.1 (h.rows _ (List.mem_of_getElem? (rowV_some (by rw [h.mkt.hV]; exact hi))))).1
  have hrd : ∀ (wx : World), Below w.heap.size w wx → ∀ i, i < n → ∃ aR cR, wx.cell? (aU.add i) = some (.slice (some aR) k cR) ∧ ∀ g, g < k → wx.cell? (aR.add g) = some (.int .i64 (useN V i g)) := fun wx hb i hi => by
    obtain ⟨aU', hUA, _, hcU⟩ := (h.mkt.uses.below hb).some_ (by rw [h.mkt.hV]; omega)
    injection hUA with hUA
    subst hUA
    obtain ⟨aR0, cR, hcR, _, _, hIR⟩ := hcU i _ (rowV_some (by rw [h.mkt.hV]; exact hi))
    rw [hrow i hi] at hcR
    obtain ⟨aR, rfl, _, hcI⟩ := hIR.some_ (by rw [hrow i hi]; omega)
    refine ⟨aR, cR, hcR, fun g hg => hcI g _ ?_⟩
    unfold useN
    rw [List.getD_eq_getElem?_getD, List.getElem?_eq_getElem (by rw [hrow i hi]; exact hg)]; rfl
  have hNOe : ∀ i g, i < n → g < k → edgeOk V n k set i g = false → Hid (forestF V n k set = false) := fun i g hi hg h => Lib.hid (by
    unfold forestF
    rw [Bool.and_eq_false_iff]
    left
    rw [List.all_eq_false]
    refine ⟨i, List.mem_range.2 hi, ?_⟩
    rw [Bool.not_eq_true, List.all_eq_false]
    exact ⟨g, List.mem_range.2 hg, by simp [h]⟩)
  have hNOn : ∀ x, x < n + k → nodeOk n k set x = false → Hid (forestF V n k set = false) := fun x hx h => Lib.hid (by
    unfold forestF
    rw [Bool.and_eq_false_iff]
    right
    rw [List.all_eq_false]
    exact ⟨x, List.mem_range.2 hx, by simp [h]⟩)
  have H := Lib.hid (And.intro hM1 (And.intro hb1 (And.intro hrd (And.intro hNOe hNOn))))
  have hwl := hM1.lt
  clear h hM1 hb1 hrow hrd hNOe hNOn
  obtain ⟨S, hS⟩ : ∃ S, S = n + k := ⟨_, rfl⟩
  have hSw : (n : Int) + (k : Int) = (S : Int) := by omega
  have hS6 : S ≤ 6 := by omega
  have HS := Lib.hid hS
  clear hS
  go_enter Try.func43, Try.ntmps43
  go_wp2_with fail
  rw [← hw1]
  clear hw1
  go_loopw [14] (fun iv wx => ∃ i : Nat, i ≤ n ∧ iv = .int .i64 i ∧ (∀ j, j < i → ∀ g, g < k → edgeOk V n k set j g = true) ∧ Below w1.heap.size w1 wx) (fun iv _ => n - (intOf iv).toNat)
  case atStart => exact ⟨0, Nat.zero_le _, rfl, fun j hj => by omega, Below.refl _ _⟩
  case round =>
    obtain ⟨i, hi, rfl, hall, hbl⟩ := hrel
    obtain ⟨wo, rfl⟩ : ∃ wo : World, wo = wr := ⟨_, rfl⟩
    have HR := Lib.hid (And.intro hall hbl)
    clear hall hbl
    by_cases hin : i < n
    · have l1 : (i : Int) < (n : Int) := by omega
      have l2 : (0 : Int) ≤ (i : Int) := by omega
      go_wp2_with fail
      go_loopw [18] (fun gv wx => ∃ g : Nat, g ≤ k ∧ gv = .int .i64 g ∧ (∀ x, x < g → edgeOk V n k set i x = true) ∧ Below w1.heap.size w1 wx) (fun gv _ => k - (intOf gv).toNat)
      case atStart => exact ⟨0, Nat.zero_le _, rfl, fun j hj => by omega, HR.out.2⟩
      case round =>
        obtain ⟨g, hg, rfl, hall, hbl⟩ := hrel
        obtain ⟨wi, rfl⟩ : ∃ wo : World, wo = wr := ⟨_, rfl⟩
        have HI := Lib.hid (And.intro hall (And.intro hbl (H.out.2.1.trans (hbl.mono H.out.2.1.size))))
        clear hall hbl
        by_cases hgk : g < k
        · have l3 : (g : Int) < (k : Int) := by omega
          have l4 : (0 : Int) ≤ (g : Int) := by omega
          have hedge : edgeOk V n k set i g = (!(set.testBit (i * k + g)) || (useN V i g != 0 && !((partF n k (clr set (i * k + g)) i).testBit (n + g)))) := rfl
          obtain ⟨P, hP, hP2⟩ : ∃ P : Nat, (P : Int) = (i : Int) * (k : Int) ∧ P = i * k := ⟨i * k, by push_cast; rfl, rfl⟩
          have hPb : P ≤ 6 := by rw [hP2]; have := Nat.mul_le_mul (show i ≤ 2 by omega) hk.2; omega
          obtain ⟨J, hJ⟩ : ∃ J, J = P + g := ⟨_, rfl⟩
          obtain ⟨N, hN⟩ : ∃ N, N = n + g := ⟨_, rfl⟩
          have hPw : (i : Int) * (k : Int) = (P : Int) := hP.symm
          have hJw : (P : Int) + (g : Int) = (J : Int) := by omega
          have hNw : (n : Int) + (g : Int) = (N : Int) := by omega
          rw [← hP2, ← hJ, ← hN] at hedge
          have hJ9 : J < 9 := by omega
          have HE := Lib.hid (And.intro hedge (And.intro hJ9 (show N < 6 by omega)))
          have hN6 : N ≤ 5 := by omega
          clear hedge hP hP2 hJ hN
          cases hb : set.testBit J with
          | false =>
            have hbt := shr0_t (set := set) (b := J) hs hb
            rw [hb, Bool.not_false, Bool.true_or] at HE
            clear hb
            go_wp2_with fail
            go_roundw
            case rel => exact ⟨g + 1, by omega, by go_num, fun x hx => by
              rcases Nat.lt_or_ge x g with h1 | h1
              · exact HI.out.1 x h1
              · rw [show x = g by omega]; exact HE.out.1, HI.out.2.1⟩
            case measure => simp [intOf]; omega
          | true =>
            have hbt := shr0_f (set := set) (b := J) hs hb
            rw [hb, Bool.not_true, Bool.false_or] at HE
            have e1 := pow_wrap J (by omega)
            have e1' : wrap64 ((2 : Int) ^ J) = ((2 ^ J : Nat) : Int) := by rw [← wrapEq]; exact e1
            have hcl := andNot_clr (b := J) hs hJ9
            have hcl5 := clr_lt (b := J) hs
            obtain ⟨X, hXe⟩ : ∃ X, X = 2 ^ J := ⟨_, rfl⟩
            rw [← hXe] at e1 e1' hcl
            obtain ⟨rst, hre⟩ : ∃ X, X = clr set J := ⟨_, rfl⟩
            rw [← hre] at hcl hcl5 HE
            obtain ⟨m1, m2, _, _⟩ := (H.out.1.below HI.out.2.1 hwl).at2
            obtain ⟨aR, cR, r1, r2⟩ := H.out.2.2.1 wi HI.out.2.2 i hin
            have r3 := r2 g hgk
            clear hb hXe hre r2
            obtain ⟨u, hu⟩ : ∃ u, u = useN V i g := ⟨_, rfl⟩
            rw [← hu] at r3 HE
            clear hu
            by_cases hu0 : u = 0
            · have HN := H.out.2.2.2.1 i g hin hgk (by rw [HE.out.1, hu0]; rfl)
              subst hu0
              go_wp2_with fail
              go_ret
              exact ⟨ret_bool HN.out.symm, HI.out.2.2⟩
            · have hu0' : (u != 0) = true := by simpa using hu0
              rw [hu0', Bool.true_and] at HE
              have HP := Lib.hid fun w' => r4part_any n k rst i hn hk hcl5 (by omega) w'
              have hpl := partF_lt (n := n) (k := k) (set := rst) (node := i) (by omega) (by omega)
              obtain ⟨pt, hpt⟩ : ∃ X, X = partF n k rst i := ⟨_, rfl⟩
              rw [← hpt] at hpl HP HE
              clear hu0' hpt
              go_wp2_with fail
              refine (HP.out _).mono ?_
              rintro e w2 ⟨rfl, hb2⟩
              have HB2 := Lib.hid (And.intro (HI.out.2.1.trans (hb2.mono HI.out.2.1.size)) (HI.out.2.2.trans (hb2.mono HI.out.2.2.size)))
              clear hb2 HP m1 m2 r1 r3
              cases hb : pt.testBit N with
              | true =>
                have hbt := bit64_t hpl hb
                have HN := H.out.2.2.2.1 i g hin hgk (by rw [HE.out.1, hb]; rfl)
                clear hb
                go_wp2_with fail
                go_ret
                exact ⟨ret_bool HN.out.symm, HB2.out.2⟩
              | false =>
                have hbt := bit64_f hpl hb
                rw [hb, Bool.not_false] at HE
                clear hb
                go_wp2_with fail
                go_roundw
                case rel => exact ⟨g + 1, by omega, by go_num, fun x hx => by
                  rcases Nat.lt_or_ge x g with h1 | h1
                  · exact HI.out.1 x h1
                  · rw [show x = g by omega]; exact HE.out.1, HB2.out.1⟩
                case measure => simp [intOf]; omega
        · obtain rfl : k = g := by omega
          go_wp2_with fail
          go_roundw
          case rel => exact ⟨i + 1, by omega, by go_num, fun x hx => by
            rcases Nat.lt_or_ge x i with h1 | h1
            · exact HR.out.1 x h1
            · rw [show x = i by omega]; exact HI.out.1, HI.out.2.1⟩
          case measure => simp [intOf]; omega
    · obtain rfl : n = i := by omega
      go_wp2_with fail
      go_loopw [65] (fun xv wx => ∃ x : Nat, x ≤ S ∧ xv = .int .i64 x ∧ (∀ y, y < x → nodeOk n k set y = true) ∧ Below w1.heap.size w1 wx) (fun xv _ => S - (intOf xv).toNat)
      case atStart => exact ⟨0, Nat.zero_le _, rfl, fun j hj => by omega, HR.out.2⟩
      case round =>
        obtain ⟨x, hx, rfl, hall, hbl⟩ := hrel
        obtain ⟨wi, rfl⟩ : ∃ wo : World, wo = wr := ⟨_, rfl⟩
        have HI := Lib.hid (And.intro hall (And.intro hbl (H.out.2.1.trans (hbl.mono H.out.2.1.size))))
        clear hall hbl
        by_cases hxS : x < S
        · have l3 : (x : Int) < (S : Int) := by omega
          have e1 := pow_wrap x (by omega)
          have e1' : wrap64 ((2 : Int) ^ x) = ((2 ^ x : Nat) : Int) := by rw [← wrapEq]; exact e1
          have hnode : nodeOk n k set x = (partF n k set x != 2 ^ x) := rfl
          have HP : Hid (∀ sd : Desc wi, Calls Try.prog 62 #[.int .i64 n, .int .i64 k, .int .i64 set, .int .i64 x] sd.val fun e w'' => e = .returned (.int .i64 (partF n k set x : Nat)) ∧ ∃ s' : Desc wi, w'' = s'.val) := Lib.hid fun sd => Calls.desc_of (r4part_any n k set x hn hk hs (by omega) sd.val)
          obtain ⟨X, hXe⟩ : ∃ X, X = 2 ^ x := ⟨_, rfl⟩
          obtain ⟨pt, hpt⟩ : ∃ X, X = partF n k set x := ⟨_, rfl⟩
          rw [← hXe] at e1 e1' hnode
          rw [← hpt] at HP hnode
          have HN := Lib.hid (And.intro hnode (show x < n + k by rw [← HS.out]; exact hxS))
          clear hnode hXe hpt
          go_upto_region 16 with fail
          by_cases he : pt = X
          · have HNO := H.out.2.2.2.2 x HN.out.2 (by rw [HN.out.1, he]; simp)
            subst he
            refine wp_region_desc (by kernel_rfl) (by kernel_rfl) ?_
            repeat (go_big_quiet_step (first | (go_at_call 62; exact HP.out _)))
            refine wpQuiet_nil ?_
            rintro _ ⟨sd, rfl⟩
            have HB := Lib.hid (HI.out.2.2.trans (sd.below.mono HI.out.2.2.size))
            go_wp2_with fail
            go_ret
            exact ⟨ret_bool HNO.out.symm, HB.out⟩
          · have hne : ((pt : Int) == (X : Int)) = false := by rw [beq_eq_false_iff_ne]; omega
            have hne2 : ¬ (pt : Int) = (X : Int) := by omega
            have HT : Hid (nodeOk n k set x = true) := Lib.hid (by rw [HN.out.1]; simpa using he)
            clear he
            refine wp_region_desc (by kernel_rfl) (by kernel_rfl) ?_
            repeat (go_big_quiet_step (first | (go_at_call 62; exact HP.out _)))
            refine wpQuiet_nil ?_
            rintro _ ⟨sd, rfl⟩
            have HB := Lib.hid (HI.out.2.1.trans (sd.below.mono HI.out.2.1.size))
            go_wp2_with fail
            go_roundw
            case rel => exact ⟨x + 1, by omega, by go_num, fun y hy => by
              rcases Nat.lt_or_ge y x with h1 | h1
              · exact HI.out.1 y h1
              · rw [show y = x by omega]; exact HT.out, HB.out⟩
            case measure => simp [intOf]; omega
        · obtain rfl : S = x := by omega
          have HT : Hid (forestF V n k set = true) := Lib.hid (by
            unfold forestF
            rw [Bool.and_eq_true, List.all_eq_true, List.all_eq_true]
            refine ⟨fun i hi => ?_, fun x hx => HI.out.1 x (by rw [HS.out]; exact List.mem_range.1 hx)⟩
            rw [List.all_eq_true]
            exact fun g hg => HR.out.1 i (List.mem_range.1 hi) g (List.mem_range.1 hg))
          go_wp2_with fail
          go_ret
          exact ⟨ret_bool HT.out.symm, HI.out.2.2⟩

/- Sets of pairs of three buyers and three goods: plain laws, by trying all. -/

set_option maxRecDepth 100000 in
theorem allP33_0 : allP 3 3 0 32 = true := by decide +kernel
set_option maxRecDepth 100000 in
theorem allP33_1 : allP 3 3 32 32 = true := by decide +kernel
set_option maxRecDepth 100000 in
theorem allP33_2 : allP 3 3 64 32 = true := by decide +kernel
set_option maxRecDepth 100000 in
theorem allP33_3 : allP 3 3 96 32 = true := by decide +kernel
set_option maxRecDepth 100000 in
theorem allP33_4 : allP 3 3 128 32 = true := by decide +kernel
set_option maxRecDepth 100000 in
theorem allP33_5 : allP 3 3 160 32 = true := by decide +kernel
set_option maxRecDepth 100000 in
theorem allP33_6 : allP 3 3 192 32 = true := by decide +kernel
set_option maxRecDepth 100000 in
theorem allP33_7 : allP 3 3 224 32 = true := by decide +kernel
set_option maxRecDepth 100000 in
theorem allP33_8 : allP 3 3 256 32 = true := by decide +kernel
set_option maxRecDepth 100000 in
theorem allP33_9 : allP 3 3 288 32 = true := by decide +kernel
set_option maxRecDepth 100000 in
theorem allP33_10 : allP 3 3 320 32 = true := by decide +kernel
set_option maxRecDepth 100000 in
theorem allP33_11 : allP 3 3 352 32 = true := by decide +kernel
set_option maxRecDepth 100000 in
theorem allP33_12 : allP 3 3 384 32 = true := by decide +kernel
set_option maxRecDepth 100000 in
theorem allP33_13 : allP 3 3 416 32 = true := by decide +kernel
set_option maxRecDepth 100000 in
theorem allP33_14 : allP 3 3 448 32 = true := by decide +kernel
set_option maxRecDepth 100000 in
theorem allP33_15 : allP 3 3 480 32 = true := by decide +kernel
theorem allP_at {n k a N e : Nat} (h : allP n k a N = true) (ha : a ≤ e) (he : e < a + N) : oneP n k e = true := by
  have h1 := List.all_eq_true.1 h (e - a) (List.mem_range.2 (by omega))
  rwa [show a + (e - a) = e by omega] at h1
theorem allP33 {e : Nat} (he : e < 512) : oneP 3 3 e = true := by
  have h : e / 32 < 16 := by omega
  have h2 : 32 * (e / 32) ≤ e ∧ e < 32 * (e / 32) + 32 := by omega
  generalize e / 32 = q at *
  have : q = 0 ∨ q = 1 ∨ q = 2 ∨ q = 3 ∨ q = 4 ∨ q = 5 ∨ q = 6 ∨ q = 7 ∨ q = 8 ∨ q = 9 ∨ q = 10 ∨ q = 11 ∨ q = 12 ∨ q = 13 ∨ q = 14 ∨ q = 15 := by omega
  rcases this with rfl | rfl | rfl | rfl | rfl | rfl | rfl | rfl | rfl | rfl | rfl | rfl | rfl | rfl | rfl | rfl
  · exact allP_at allP33_0 (by omega) (by omega)
  · exact allP_at allP33_1 (by omega) (by omega)
  · exact allP_at allP33_2 (by omega) (by omega)
  · exact allP_at allP33_3 (by omega) (by omega)
  · exact allP_at allP33_4 (by omega) (by omega)
  · exact allP_at allP33_5 (by omega) (by omega)
  · exact allP_at allP33_6 (by omega) (by omega)
  · exact allP_at allP33_7 (by omega) (by omega)
  · exact allP_at allP33_8 (by omega) (by omega)
  · exact allP_at allP33_9 (by omega) (by omega)
  · exact allP_at allP33_10 (by omega) (by omega)
  · exact allP_at allP33_11 (by omega) (by omega)
  · exact allP_at allP33_12 (by omega) (by omega)
  · exact allP_at allP33_13 (by omega) (by omega)
  · exact allP_at allP33_14 (by omega) (by omega)
  · exact allP_at allP33_15 (by omega) (by omega)
theorem one_all {n k e : Nat} (hn : 1 ≤ n ∧ n ≤ 3) (hk : 1 ≤ k ∧ k ≤ 3) (he : e < 2 ^ (n * k)) : oneP n k e = true := by
  have h1 : n = 1 ∨ n = 2 ∨ n = 3 := by omega
  have h2 : k = 1 ∨ k = 2 ∨ k = 3 := by omega
  rcases h1 with rfl | rfl | rfl <;> rcases h2 with rfl | rfl | rfl
  · exact allP_at allP11 (Nat.zero_le _) (by simpa using he)
  · exact allP_at allP12 (Nat.zero_le _) (by simpa using he)
  · exact allP_at allP13 (Nat.zero_le _) (by simpa using he)
  · exact allP_at allP21 (Nat.zero_le _) (by simpa using he)
  · exact allP_at allP22 (Nat.zero_le _) (by simpa using he)
  · exact allP_at allP23 (Nat.zero_le _) (by simpa using he)
  · exact allP_at allP31 (Nat.zero_le _) (by simpa using he)
  · exact allP_at allP32 (Nat.zero_le _) (by simpa using he)
  · exact allP33 he

/- The prices that pairs demand, as the reference's solver reckons them: plain Lean. -/

abbrev Rl := Nat → Option Rat
def relS (V : List (List Int)) (k set i : Nat) (r : Rl) (g h : Nat) : Rl := if set.testBit (i * k + g) && (set.testBit (i * k + h) && ((r g).isSome && (r h).isNone)) then upd r h (some ((r g).getD 0 * (useQ V i h / useQ V i g))) else r
def relH (V : List (List Int)) (k set i : Nat) (r : Rl) (g : Nat) : Nat → Rl
  | 0 => r
  | h + 1 => relS V k set i (relH V k set i r g h) g h
def relG (V : List (List Int)) (k set i : Nat) (r : Rl) : Nat → Rl
  | 0 => r
  | g + 1 => relH V k set i (relG V k set i r g) g k
def relI (V : List (List Int)) (k set : Nat) (r : Rl) : Nat → Rl
  | 0 => r
  | i + 1 => relG V k set i (relI V k set r i) k
def relR (V : List (List Int)) (n k set : Nat) (r : Rl) : Nat → Rl
  | 0 => r
  | t + 1 => relI V k set (relR V n k set r t) n
def rel0 (first : Nat) : Rl := fun x => if x = first then some 1 else none
def relF (V : List (List Int)) (n k set first : Nat) : Rl := relR V n k set (rel0 first) (n + k)
def sumR (r : Rl) : Nat → Rat
  | 0 => 0
  | g + 1 => sumR r g + (r g).getD 0
def budP (B : List Int) (pt : Nat) : Nat → Int
  | 0 => 0
  | i + 1 => budP B pt i + if pt.testBit i then B.getD i 0 else 0
def outG (o r : Rl) (q : Rat) : Nat → Rl
  | 0 => o
  | g + 1 => if (r g).isSome then upd (outG o r q g) g (some ((r g).getD 0 * q)) else outG o r q g
def facR (B : List Int) (V : List (List Int)) (n k set f : Nat) : Rat := ((budP B (partF n k set (n + f)) n : Int) : Rat) / sumR (relF V n k set f) k
def outF (B : List Int) (V : List (List Int)) (n k set : Nat) : Nat → Rl
  | 0 => fun _ => none
  | f + 1 => if (outF B V n k set f f).isSome then outF B V n k set f else outG (outF B V n k set f) (relF V n k set f) (facR B V n k set f) k
/-- What is true of each step of a search is true of the whole search. -/
theorem rel_ind {V : List (List Int)} {n k set : Nat} {P : Rl → Nat → Prop} (hs : ∀ i g h (r : Rl) (m : Nat), i < n → g < k → h < k → P r m → P (relS V k set i r g h) (if set.testBit (i * k + g) && (set.testBit (i * k + h) && (m.testBit g && !m.testBit h)) then m ||| 2 ^ h else m)) :
    (∀ i g r m, i < n → g < k → P r m → ∀ h, h ≤ k → P (relH V k set i r g h) (domH k set i m g h)) ∧ (∀ i r m, i < n → P r m → ∀ g, g ≤ k → P (relG V k set i r g) (domG k set i m g)) ∧
    (∀ r m, P r m → ∀ i, i ≤ n → P (relI V k set r i) (domI k set m i)) ∧ (∀ r m, P r m → ∀ t, P (relR V n k set r t) (domR n k set m t)) := by
  have h1 : ∀ i g r m, i < n → g < k → P r m → ∀ h, h ≤ k → P (relH V k set i r g h) (domH k set i m g h) := by
    intro i g r m hi hg hP h
    induction h with
    | zero => intro _; exact hP
    | succ h ih => intro hh; exact hs i g h _ _ hi hg (by omega) (ih (by omega))
  have h2 : ∀ i r m, i < n → P r m → ∀ g, g ≤ k → P (relG V k set i r g) (domG k set i m g) := by
    intro i r m hi hP g
    induction g with
    | zero => intro _; exact hP
    | succ g ih => intro hg; exact h1 i g _ _ hi (by omega) (ih (by omega)) k (Nat.le_refl _)
  have h3 : ∀ r m, P r m → ∀ i, i ≤ n → P (relI V k set r i) (domI k set m i) := by
    intro r m hP i
    induction i with
    | zero => intro _; exact hP
    | succ i ih => intro hi; exact h2 i _ _ (by omega) (ih (by omega)) k (Nat.le_refl _)
  refine ⟨h1, h2, h3, fun r m hP t => ?_⟩
  induction t with
  | zero => exact hP
  | succ t ih => exact h3 _ _ ih n (Nat.le_refl _)
/-- How many are known. -/
def cntS (r : Rl) : Nat → Nat
  | 0 => 0
  | x + 1 => cntS r x + if (r x).isSome then 1 else 0
theorem cntS_le (r : Rl) : ∀ k, cntS r k ≤ k
  | 0 => Nat.le_refl _
  | k + 1 => by have := cntS_le r k; simp only [cntS]; split <;> omega
theorem cntS_upd {r : Rl} {h : Nat} {q : Rat} (hn : r h = none) : ∀ k, cntS (upd r h (some q)) k = cntS r k + if h < k then 1 else 0
  | 0 => by simp [cntS]
  | k + 1 => by
    simp only [cntS]
    rw [cntS_upd hn k]
    by_cases e : k = h
    · subst e
      simp [upd_same, hn]
    · rw [upd_other _ _ _ e]
      have e2 : (h < k + 1) = (h < k) := propext ⟨fun h => by omega, fun h => by omega⟩
      simp only [e2]
      omega
theorem cntS_pos {r : Rl} {x : Nat} (hx : (r x).isSome = true) : ∀ {k}, x < k → 1 ≤ cntS r k
  | 0, h => by omega
  | k + 1, h => by
    simp only [cntS]
    by_cases e : x = k
    · subst e; rw [if_pos hx]; omega
    · have := cntS_pos hx (k := k) (by omega); omega
/-- The relative prices have a small denominator in common. -/
structure RB (k : Nat) (r : Rl) (m : Nat) : Prop where
  dom : ∀ x, (r x).isSome = m.testBit x
  lt : ∀ x, (r x).isSome = true → x < k
  bd : ∃ (D : Int) (a : Nat → Int), 1 ≤ D ∧ D ≤ 20 ^ (cntS r k - 1) ∧ 1 ≤ cntS r k ∧ ∀ x q, r x = some q → q = (a x : Rat) / (D : Rat) ∧ 1 ≤ a x ∧ a x ≤ 20 ^ (cntS r k - 1)
theorem RB.start {k first : Nat} (hf : first < k) : RB k (rel0 first) (2 ^ first) where
  dom := fun x => by
    unfold rel0
    rw [Nat.testBit_two_pow]
    by_cases e : x = first
    · subst e; simp
    · rw [if_neg e]
      have : ¬ first = x := fun h => e h.symm
      simp [this]
  lt := fun x hx => by
    unfold rel0 at hx
    by_cases e : x = first
    · omega
    · rw [if_neg e] at hx; cases hx
  bd := by
    have hc : ∀ j, cntS (rel0 first) j = if first < j then 1 else 0 := by
      intro j
      induction j with
      | zero => rfl
      | succ j ih =>
        simp only [cntS]
        rw [ih]
        unfold rel0
        by_cases e : j = first
        · subst e
          simp
        · have e2 : (first < j + 1) = (first < j) := propext ⟨fun h => by omega, fun h => by omega⟩
          simp only [e2, if_neg e]
          simp
    have h1 := hc k
    rw [if_pos hf] at h1
    refine ⟨1, fun _ => 1, Int.le_refl _, by rw [h1]; decide, by omega, fun x q hq => ?_⟩
    unfold rel0 at hq
    by_cases e : x = first
    · rw [if_pos e] at hq
      injection hq with hq
      rw [h1]
      exact ⟨by rw [← hq]; show (1 : Rat) = 1 / 1; grind, Int.le_refl _, Int.le_refl _⟩
    · rw [if_neg e] at hq; cases hq
theorem pow20_succ {c : Nat} (h : 1 ≤ c) : (20 : Int) ^ (c + 1 - 1) = 20 ^ (c - 1) * 20 := by
  rw [show c + 1 - 1 = (c - 1) + 1 by omega, Int.pow_succ]
theorem RB.step {V : List (List Int)} {k set i g h : Nat} {r : Rl} {m : Nat} (hr : RB k r m) (hh : h < k) (hu : ∀ x, x < k → set.testBit (i * k + x) = true → 1 ≤ useN V i x ∧ useN V i x ≤ 20) :
    RB k (relS V k set i r g h) (if set.testBit (i * k + g) && (set.testBit (i * k + h) && (m.testBit g && !m.testBit h)) then m ||| 2 ^ h else m) := by
  have hc : (set.testBit (i * k + g) && (set.testBit (i * k + h) && ((r g).isSome && (r h).isNone))) = (set.testBit (i * k + g) && (set.testBit (i * k + h) && (m.testBit g && !m.testBit h))) := by
    rw [← hr.dom g, ← hr.dom h]
    cases r h <;> rfl
  unfold relS
  rw [hc]
  by_cases hcc : (set.testBit (i * k + g) && (set.testBit (i * k + h) && (m.testBit g && !m.testBit h))) = true
  · rw [if_pos hcc, if_pos hcc]
    simp only [Bool.and_eq_true, Bool.not_eq_true'] at hcc
    obtain ⟨b1, b2, b3, b4⟩ := hcc
    have hg : (r g).isSome = true := by rw [hr.dom]; exact b3
    obtain ⟨q, hq⟩ := Option.isSome_iff_exists.1 hg
    have hn : r h = none := by
      have := hr.dom h
      rw [b4] at this
      exact Option.isNone_iff_eq_none.1 (by simpa using this)
    have hgk := hr.lt g hg
    obtain ⟨u1, u2⟩ := hu g hgk b1
    obtain ⟨v1, v2⟩ := hu h hh b2
    have hcnt : cntS (upd r h (some ((r g).getD 0 * (useQ V i h / useQ V i g)))) k = cntS r k + 1 := by rw [cntS_upd hn, if_pos hh]
    obtain ⟨D, a, d1, d2, d3, d4⟩ := hr.bd
    refine ⟨fun x => ?_, fun x hx => ?_, ?_⟩
    · rw [Nat.testBit_or, Nat.testBit_two_pow]
      by_cases e : x = h
      · subst e; rw [upd_same]; simp
      · rw [upd_other _ _ _ e, hr.dom]
        have : ¬ h = x := fun he => e he.symm
        simp [this]
    · by_cases e : x = h
      · omega
      · rw [upd_other _ _ _ e] at hx; exact hr.lt x hx
    · rw [hcnt, pow20_succ d3]
      generalize (20 : Int) ^ (cntS r k - 1) = Z at *
      refine ⟨D * useN V i g, fun x => if x = h then a g * useN V i h else a x * useN V i g, ?_, ?_, by omega, fun x p hp => ?_⟩
      · have : 1 * 1 ≤ D * useN V i g := Int.mul_le_mul d1 u1 (by omega) (by omega); omega
      · exact Int.mul_le_mul d2 u2 (by omega) (by omega)
      · have hu0 : ((useN V i g : Int) : Rat) ≠ 0 := rat_ne (by omega)
        have hD0 : ((D : Int) : Rat) ≠ 0 := rat_ne (by omega)
        by_cases e : x = h
        · subst e
          rw [upd_same] at hp
          injection hp with hp
          obtain ⟨e1, e2, e3⟩ := d4 g q hq
          dsimp only
          rw [if_pos rfl]
          refine ⟨?_, ?_, Int.mul_le_mul e3 v2 (by omega) (by omega)⟩
          · rw [← hp, hq, Option.getD_some, e1, Rat.intCast_mul, Rat.intCast_mul]
            unfold useQ
            generalize ((useN V i g : Int) : Rat) = ug at *
            generalize ((useN V i x : Int) : Rat) = uh at *
            generalize (D : Rat) = dd at *
            generalize (a g : Rat) = ag at *
            grind
          · have : 1 * 1 ≤ a g * useN V i x := Int.mul_le_mul e2 v1 (by omega) (by omega); omega
        · rw [upd_other _ _ _ e] at hp
          obtain ⟨e1, e2, e3⟩ := d4 x p hp
          dsimp only
          rw [if_neg e]
          refine ⟨?_, ?_, Int.mul_le_mul e3 u2 (by omega) (by omega)⟩
          · rw [e1, Rat.intCast_mul, Rat.intCast_mul]
            generalize ((useN V i g : Int) : Rat) = ug at *
            generalize (D : Rat) = dd at *
            generalize (a x : Rat) = ax at *
            grind
          · have : 1 * 1 ≤ a x * useN V i g := Int.mul_le_mul e2 u1 (by omega) (by omega); omega
  · rw [if_neg hcc, if_neg hcc]
    exact hr
/-- The sizes, by the number of those that are known. -/
def bdT : Nat → Int
  | 0 => 1
  | 1 => 1
  | 2 => 40
  | _ => 1200
theorem rl_inv {V : List (List Int)} {n k set f : Nat} (hf : f < k) (hu : ∀ i x, i < n → x < k → set.testBit (i * k + x) = true → 1 ≤ useN V i x ∧ useN V i x ≤ 20) : RB k (relF V n k set f) (domF n k set f) :=
  (rel_ind (n := n) (set := set) (V := V) (P := RB k) fun i _ _ _ _ hi _ hh hr => hr.step hh fun x hx hb => hu i x hi hx hb).2.2.2 _ _ (RB.start hf) _
theorem dom_mono {V : List (List Int)} {n k set f : Nat} : (domF n k set f).testBit f = true := by
  have := (rel_ind (n := n) (k := k) (set := set) (V := V) (P := fun _ m => m.testBit f = true) fun _ _ _ _ _ _ _ _ hm => by
    split
    · rw [Nat.testBit_or, hm, Bool.true_or]
    · exact hm).2.2.2 (rel0 f) (2 ^ f) (by rw [Nat.testBit_two_pow]; simp) (n + k)
  exact this
theorem sumR_eq {r : Rl} {D : Int} {a : Nat → Int} (hD : 1 ≤ D) (h : ∀ x q, r x = some q → q = (a x : Rat) / (D : Rat)) : ∀ k, sumR r k = ((sumZ (fun x => if (r x).isSome then a x else 0) k : Int) : Rat) / (D : Rat)
  | 0 => by show (0 : Rat) = ((0 : Int) : Rat) / _; rw [Rat.div_def]; show (0 : Rat) = 0 * _; grind
  | k + 1 => by
    simp only [sumR, sumZ]
    rw [sumR_eq hD h k, Rat.intCast_add]
    have hD0 : ((D : Int) : Rat) ≠ 0 := rat_ne (by omega)
    cases hr : r k with
    | none =>
      simp only [Option.isSome_none, Option.getD_none, Bool.false_eq_true, if_false]
      show _ + (0 : Rat) = (_ + (0 : Rat)) / _
      generalize ((sumZ (fun x => if (r x).isSome then a x else 0) k : Int) : Rat) = z
      generalize (D : Rat) = dd at *
      grind
    | some q =>
      rw [h k q hr]
      simp only [Option.isSome_some, Option.getD_some, if_true]
      generalize ((sumZ (fun x => if (r x).isSome then a x else 0) k : Int) : Rat) = z
      generalize (a k : Rat) = ak
      generalize (D : Rat) = dd at *
      grind
theorem sumZ_cnt {r : Rl} {a : Nat → Int} {Z : Int} (hZ : 1 ≤ Z) (h : ∀ x, (r x).isSome = true → 1 ≤ a x ∧ a x ≤ Z) : ∀ k, (cntS r k : Int) ≤ sumZ (fun x => if (r x).isSome then a x else 0) k ∧ sumZ (fun x => if (r x).isSome then a x else 0) k ≤ cntS r k * Z
  | 0 => by simp [sumZ, cntS]
  | k + 1 => by
    obtain ⟨h1, h2⟩ := sumZ_cnt hZ h k
    simp only [sumZ, cntS]
    cases hr : (r k).isSome with
    | false => simp; exact ⟨h1, h2⟩
    | true =>
      obtain ⟨h3, h4⟩ := h k hr
      simp only [if_true]
      rw [show (((cntS r k + 1 : Nat) : Int)) = (cntS r k : Int) + 1 by omega, Int.add_mul]
      omega
/-- The sum of the relative prices, and each of them. -/
structure RS (k : Nat) (r : Rl) : Prop where
  ex : ∃ (A D : Int) (a : Nat → Int), 1 ≤ D ∧ D ≤ 400 ∧ 1 ≤ A ∧ A ≤ bdT (cntS r k) ∧ 1 ≤ cntS r k ∧ sumR r k = (A : Rat) / (D : Rat) ∧ ∀ x q, r x = some q → q = (a x : Rat) / (D : Rat) ∧ 1 ≤ a x ∧ a x ≤ A ∧ a x ≤ 400
theorem le_sumZ {r : Rl} {a : Nat → Int} (h : ∀ x, (r x).isSome = true → 1 ≤ a x) : ∀ k, 0 ≤ sumZ (fun x => if (r x).isSome then a x else 0) k ∧ ∀ x, x < k → (r x).isSome = true → a x ≤ sumZ (fun x => if (r x).isSome then a x else 0) k
  | 0 => ⟨Int.le_refl _, fun x hx => by omega⟩
  | k + 1 => by
    obtain ⟨h1, h2⟩ := le_sumZ h k
    simp only [sumZ]
    refine ⟨?_, fun x hx hs => ?_⟩
    · split
      · rename_i hs; have := h k hs; omega
      · omega
    · rcases Nat.lt_or_ge x k with h3 | h3
      · have := h2 x h3 hs
        split
        · rename_i hs; have := h k hs; omega
        · omega
      · rw [show x = k by omega] at hs ⊢
        rw [if_pos hs]; omega
theorem RB.rs {k m : Nat} {r : Rl} (hk : k ≤ 3) (h : RB k r m) : RS k r := by
  obtain ⟨D, a, d1, d2, d3, d4⟩ := h.bd
  have hc := cntS_le r k
  have hz : (20 : Int) ^ (cntS r k - 1) ≤ 400 ∧ 1 ≤ (20 : Int) ^ (cntS r k - 1) ∧ (cntS r k : Int) * 20 ^ (cntS r k - 1) ≤ bdT (cntS r k) := by
    have : cntS r k = 1 ∨ cntS r k = 2 ∨ cntS r k = 3 := by omega
    rcases this with e | e | e <;> rw [e] <;> decide
  have hs : ∀ x, (r x).isSome = true → 1 ≤ a x ∧ a x ≤ 20 ^ (cntS r k - 1) := fun x hx => by
    obtain ⟨q, hq⟩ := Option.isSome_iff_exists.1 hx
    exact (d4 x q hq).2
  obtain ⟨s1, s2⟩ := sumZ_cnt hz.2.1 hs k
  obtain ⟨t1, t2⟩ := le_sumZ (fun x hx => (hs x hx).1) k
  refine ⟨_, D, a, d1, by omega, ?_, ?_, d3, sumR_eq d1 (fun x q hq => (d4 x q hq).1) k, fun x q hq => ?_⟩
  · omega
  · omega
  · have hx : (r x).isSome = true := by rw [hq]; rfl
    exact ⟨(d4 x q hq).1, (hs x hx).1, t2 x (h.lt x hx) hx, by have := (hs x hx).2; omega⟩
/-- The prices that are set have a small denominator in common. -/
structure OB (n k set f : Nat) (o : Rl) : Prop where
  dom : ∀ x, (o x).isSome = true → x < k ∧ ∃ f', f' < f ∧ (domF n k set f').testBit x = true ∧ ∀ y, (domF n k set f').testBit y = true → (o y).isSome = true
  all : ∀ x, x < f → x < k → (o x).isSome = true
  bd : ∃ T : Int, 1 ≤ T ∧ T ≤ bdT (cntS o k) ∧ ∀ x q, o x = some q → (0 ≤ q ∧ q ≤ 60) ∧ ∃ z : Int, q = (z : Rat) / (T : Rat)
theorem outG_at {o r : Rl} {q : Rat} {x : Nat} : ∀ k, outG o r q k x = if x < k ∧ (r x).isSome = true then some ((r x).getD 0 * q) else o x
  | 0 => by rw [if_neg (by omega)]; rfl
  | k + 1 => by
    simp only [outG]
    by_cases hs : (r k).isSome = true
    · rw [if_pos hs]
      by_cases e : x = k
      · subst e
        rw [upd_same, if_pos ⟨by omega, hs⟩]
      · rw [upd_other _ _ _ e, outG_at k]
        have : (x < k ∧ (r x).isSome = true) = (x < k + 1 ∧ (r x).isSome = true) := propext ⟨fun h => ⟨by omega, h.2⟩, fun h => ⟨by omega, h.2⟩⟩
        simp only [this]
    · rw [if_neg hs, outG_at k]
      have : (x < k ∧ (r x).isSome = true) = (x < k + 1 ∧ (r x).isSome = true) := propext ⟨fun h => ⟨by omega, h.2⟩, fun h => ⟨by
        rcases Nat.lt_or_ge x k with h1 | h1
        · exact h1
        · rw [show x = k by omega] at h; exact absurd h.2 hs, h.2⟩⟩
      simp only [this]
theorem cntS_outG {o r : Rl} {q : Rat} (hd : ∀ x, (r x).isSome = true → o x = none) : ∀ j k, j ≤ k → cntS (outG o r q k) j = cntS o j + cntS r j
  | 0, _, _ => rfl
  | j + 1, k, h => by
    simp only [cntS]
    rw [cntS_outG hd j k (by omega), outG_at]
    by_cases hs : (r j).isSome = true
    · have e : j < k ∧ (r j).isSome = true := ⟨by omega, hs⟩
      rw [if_pos e, if_pos hs, hd j hs]
      simp; omega
    · have e : ¬ (j < k ∧ (r j).isSome = true) := fun h => hs h.2
      rw [if_neg e, if_neg hs]
      omega
theorem bdT_mul {m c : Nat} (h : m + c ≤ 3) (hc : 1 ≤ c) : bdT m * bdT c ≤ bdT (m + c) ∧ 1 ≤ bdT m ∧ 1 ≤ bdT c := by
  have h1 : m = 0 ∨ m = 1 ∨ m = 2 := by omega
  have h2 : c = 1 ∨ c = 2 ∨ c = 3 := by omega
  rcases h1 with rfl | rfl | rfl <;> rcases h2 with rfl | rfl | rfl <;> first | omega | decide
theorem one_parts {n k e : Nat} (hn : 1 ≤ n ∧ n ≤ 3) (hk : 1 ≤ k ∧ k ≤ 3) (he : e < 2 ^ (n * k)) : (hasCyc n k e = false → covB n k e = true → forB n k e = true) ∧ ∀ f, f < k → clsB n k e f = true ∧ disB n k e f = true := by
  have h := one_all hn hk he
  unfold oneP at h
  rw [Bool.and_eq_true, List.all_eq_true] at h
  refine ⟨fun h1 h2 => ?_, fun f hf => by have := h.2 f (List.mem_range.2 hf); rwa [Bool.and_eq_true] at this⟩
  have h3 := h.1
  rw [h1, h2] at h3
  simpa using h3
theorem budP_bd {B : List Int} {pt : Nat} (h : ∀ b ∈ B, 1 ≤ b ∧ b ≤ 20) : ∀ n, 0 ≤ budP B pt n ∧ budP B pt n ≤ 20 * n
  | 0 => by simp [budP]
  | n + 1 => by
    have := budP_bd (pt := pt) h n
    simp only [budP]
    have hb : 0 ≤ B.getD n 0 ∧ B.getD n 0 ≤ 20 := by
      rw [List.getD_eq_getElem?_getD]
      cases e : B[n]? with
      | none => decide
      | some b => have := h b (List.mem_of_getElem? e); simp; omega
    split <;> omega
theorem cntS_none : ∀ j, cntS (fun _ => none) j = 0
  | 0 => rfl
  | j + 1 => by simp only [cntS]; rw [cntS_none j]; rfl
theorem OB.start {n k set : Nat} : OB n k set 0 (fun _ => none) where
  dom := fun x hx => by cases hx
  all := fun x hx => by omega
  bd := ⟨1, by decide, by rw [cntS_none]; decide, fun x q hq => by cases hq⟩
theorem OB.step {B : List Int} {V : List (List Int)} {n k set f : Nat} (hn : 1 ≤ n ∧ n ≤ 3) (hk : 1 ≤ k ∧ k ≤ 3) (he : set < 2 ^ (n * k)) (hf : f < k) (hb : ∀ b ∈ B, 1 ≤ b ∧ b ≤ 20) (hu : ∀ i x, i < n → x < k → set.testBit (i * k + x) = true → 1 ≤ useN V i x ∧ useN V i x ≤ 20)
    (h : OB n k set f (outF B V n k set f)) : OB n k set (f + 1) (outF B V n k set (f + 1)) := by
  simp only [outF]
  by_cases hs : (outF B V n k set f f).isSome = true
  · rw [if_pos hs]
    refine ⟨fun x hx => ?_, fun x hx hxk => ?_, h.bd⟩
    · obtain ⟨h1, f', h2, h3, h4⟩ := h.dom x hx
      exact ⟨h1, f', by omega, h3, h4⟩
    · rcases Nat.lt_or_ge x f with h1 | h1
      · exact h.all x h1 hxk
      · rw [show x = f by omega]; exact hs
  · rw [if_neg hs]
    have hRB := rl_inv (V := V) (n := n) (set := set) hf hu
    obtain ⟨A, D, a, d1, d2, a1, a2, a3, e1, e2⟩ := (hRB.rs hk.2).ex
    have hdis : ∀ x, (relF V n k set f x).isSome = true → outF B V n k set f x = none := by
      intro x hx
      cases ho : outF B V n k set f x with
      | none => rfl
      | some q =>
        exfalso
        obtain ⟨_, f', g1, g2, g3⟩ := h.dom x (by rw [ho]; rfl)
        have hd := List.all_eq_true.1 ((one_parts hn hk he).2 f hf).2 f' (List.mem_range.2 g1)
        rw [Bool.or_eq_true, beq_iff_eq] at hd
        rcases hd with hd | hd
        · exact hs (g3 f hd)
        · have hx2 : (domF n k set f).testBit x = true := by rw [← hRB.dom]; exact hx
          have : (domF n k set f' &&& domF n k set f).testBit x = true := by rw [Nat.testBit_and, g2, hx2]; rfl
          rw [hd] at this
          simp at this
    obtain ⟨T, t1, t2, t3⟩ := h.bd
    have hcnt := cntS_outG (q := facR B V n k set f) hdis k k (Nat.le_refl _)
    have hcl := cntS_le (outG (outF B V n k set f) (relF V n k set f) (facR B V n k set f) k) k
    rw [hcnt] at hcl
    obtain ⟨m1, m2, m3⟩ := bdT_mul (m := cntS (outF B V n k set f) k) (c := cntS (relF V n k set f) k) (by omega) a3
    have hbp := budP_bd (pt := partF n k set (n + f)) hb n
    have hfac : facR B V n k set f = ((budP B (partF n k set (n + f)) n : Int) : Rat) / ((A : Rat) / (D : Rat)) := by unfold facR; rw [e1]
    refine ⟨fun x hx => ?_, fun x hx hxk => ?_, T * A, ?_, ?_, fun x q hq => ?_⟩
    · rw [outG_at] at hx
      by_cases hc : x < k ∧ (relF V n k set f x).isSome = true
      · refine ⟨hc.1, f, by omega, by rw [← hRB.dom]; exact hc.2, fun y hy => ?_⟩
        rw [← hRB.dom] at hy
        rw [outG_at, if_pos ⟨hRB.lt y hy, hy⟩]; rfl
      · rw [if_neg hc] at hx
        obtain ⟨h1, f', h2, h3, h4⟩ := h.dom x hx
        refine ⟨h1, f', by omega, h3, fun y hy => ?_⟩
        rw [outG_at]
        split
        · rfl
        · exact h4 y hy
    · rw [outG_at]
      rcases Nat.lt_or_ge x f with h1 | h1
      · split
        · rfl
        · exact h.all x h1 hxk
      · rw [show x = f by omega, if_pos ⟨hf, by rw [hRB.dom]; exact dom_mono (V := V)⟩]; rfl
    · have : 1 * 1 ≤ T * A := Int.mul_le_mul t1 a1 (by omega) (by omega)
      omega
    · rw [hcnt]
      exact Int.le_trans (Int.mul_le_mul t2 a2 (by omega) (by omega)) m1
    · have hA0 : ((A : Int) : Rat) ≠ 0 := rat_ne (by omega)
      have hT0 : ((T : Int) : Rat) ≠ 0 := rat_ne (by omega)
      have hD0 : ((D : Int) : Rat) ≠ 0 := rat_ne (by omega)
      rw [outG_at] at hq
      by_cases hc : x < k ∧ (relF V n k set f x).isSome = true
      · rw [if_pos hc] at hq
        injection hq with hq
        obtain ⟨p, hp⟩ := Option.isSome_iff_exists.1 hc.2
        obtain ⟨c1, c2, c3, c4⟩ := e2 x p hp
        generalize budP B (partF n k set (n + f)) n = bb at *
        have hqe : q = ((a x * bb : Int) : Rat) / (A : Rat) := by
          rw [← hq, hp, Option.getD_some, c1, hfac, Rat.intCast_mul]
          generalize (a x : Rat) = ax
          generalize (bb : Rat) = bq
          generalize (A : Rat) = aq at *
          generalize (D : Rat) = dq at *
          grind
        refine ⟨?_, a x * bb * T, ?_⟩
        · have hAp : (0 : Rat) < (A : Rat) := by exact_mod_cast (show (0 : Int) < A by omega)
          have n1 : (0 : Int) ≤ a x * bb := Int.mul_nonneg (by omega) hbp.1
          have n2 : a x * bb ≤ A * 60 := Int.mul_le_mul c3 (by omega) hbp.1 (by omega)
          have n1' : (0 : Rat) ≤ ((a x * bb : Int) : Rat) := by exact_mod_cast n1
          have n2' : ((a x * bb : Int) : Rat) ≤ (A : Rat) * 60 := by exact_mod_cast n2
          rw [hqe]
          refine ⟨?_, ?_⟩
          · rw [Rat.div_def]
            exact Rat.mul_nonneg n1' (Rat.le_of_lt (Rat.inv_pos.2 hAp))
          · refine Rat.le_of_mul_le_mul_right (c := (A : Rat)) ?_ hAp
            generalize ((a x * bb : Int) : Rat) = y at *
            generalize (A : Rat) = aq at *
            have : y / aq * aq = y := by grind
            rw [this]
            grind
        · rw [hqe, Rat.intCast_mul (a x * bb), Rat.intCast_mul T]
          generalize ((a x * bb : Int) : Rat) = y at *
          generalize (A : Rat) = aq at *
          generalize (T : Rat) = tq at *
          grind
      · rw [if_neg hc] at hq
        obtain ⟨c1, z, c2⟩ := t3 x q hq
        refine ⟨c1, z * A, ?_⟩
        rw [c2, Rat.intCast_mul, Rat.intCast_mul]
        generalize (z : Rat) = y at *
        generalize (A : Rat) = aq at *
        generalize (T : Rat) = tq at *
        grind
/-- All prices, and their sizes. -/
def pricedL (B : List Int) (V : List (List Int)) (n k set : Nat) : List Rat := (List.range k).map fun g => (outF B V n k set k g).getD 0
theorem out_all {B : List Int} {V : List (List Int)} {n k set : Nat} (hn : 1 ≤ n ∧ n ≤ 3) (hk : 1 ≤ k ∧ k ≤ 3) (he : set < 2 ^ (n * k)) (hb : ∀ b ∈ B, 1 ≤ b ∧ b ≤ 20) (hu : ∀ i x, i < n → x < k → set.testBit (i * k + x) = true → 1 ≤ useN V i x ∧ useN V i x ≤ 20) :
    ∀ f, f ≤ k → OB n k set f (outF B V n k set f)
  | 0, _ => OB.start
  | f + 1, hf => (out_all hn hk he hb hu f (by omega)).step hn hk he (by omega) hb hu
theorem priced_sz {B : List Int} {V : List (List Int)} {n k set : Nat} (hn : 1 ≤ n ∧ n ≤ 3) (hk : 1 ≤ k ∧ k ≤ 3) (he : set < 2 ^ (n * k)) (hb : ∀ b ∈ B, 1 ≤ b ∧ b ≤ 20) (hu : ∀ i x, i < n → x < k → set.testBit (i * k + x) = true → 1 ≤ useN V i x ∧ useN V i x ≤ 20) :
    (∀ g, g < k → (outF B V n k set k g).isSome = true) ∧ ∃ T : Int, 1 ≤ T ∧ T ≤ 1200 ∧ ∀ q ∈ pricedL B V n k set, (0 ≤ q ∧ q ≤ 60) ∧ ∃ z : Int, q = (z : Rat) / (T : Rat) := by
  have h := out_all hn hk he hb hu k (Nat.le_refl _)
  refine ⟨fun g hg => h.all g hg hg, ?_⟩
  obtain ⟨T, t1, t2, t3⟩ := h.bd
  refine ⟨T, t1, ?_, fun q hq => ?_⟩
  · have := cntS_le (outF B V n k set k) k
    have h3 : cntS (outF B V n k set k) k = 0 ∨ cntS (outF B V n k set k) k = 1 ∨ cntS (outF B V n k set k) k = 2 ∨ cntS (outF B V n k set k) k = 3 := by omega
    rcases h3 with e | e | e | e <;> rw [e] at t2 <;> exact Int.le_trans t2 (by decide)
  · obtain ⟨g, hg, rfl⟩ := List.mem_map.1 hq
    obtain ⟨p, hp⟩ := Option.isSome_iff_exists.1 (h.all g (List.mem_range.1 hg) (List.mem_range.1 hg))
    rw [hp]
    exact t3 g p hp

/- The memory of the reference's prices, and the sizes at each step. -/

theorem make_fracs4 (n : Nat) (hn : n ≤ 1000000) (w : World) : (Instr.makeSlice 26 (.int .i64 n) (.int .i64 n)).run Try.prog w = .ok (.slice (some ⟨w.heap.size, 0, none⟩) n n) (w.alloc (.cells (prA (List.replicate n (0, 0))) 37)) := by
  obtain ⟨i0, hi, hz0, hz1, hz2⟩ := info_parts info_frac
  have hr := run_make (P := Try.prog) w 26 37 i0 (.agg #[.int .i64 0, .int .i64 0]) Try.underlying26 hi hz0 .i64 .i64 n n (by omega) (by omega) (by rw [hz2]; omega) (by omega)
  simp only [Int.toNat_natCast, hz1] at hr
  rw [hr, made_pairs]
def optP : Option Rat → Int × Int
  | none => (0, 0)
  | some q => pr q
def optL (r : Rl) (k : Nat) : List (Int × Int) := (List.range k).map fun x => optP (r x)
theorem optL_get {r : Rl} {k x : Nat} (hx : x < k) : (optL r k)[x]? = some (optP (r x)) := by
  unfold optL
  rw [List.getElem?_map, List.getElem?_range hx]; rfl
theorem optL_some {r : Rl} {k x : Nat} {q : Rat} (hx : x < k) (h : r x = some q) : (optL r k)[x]? = some (q.num, (q.den : Int)) := by rw [optL_get hx, h]; rfl
theorem optL_no {r : Rl} {k x : Nat} (hx : x < k) (h : r x = none) : (optL r k)[x]? = some (0, 0) := by rw [optL_get hx, h]; rfl
theorem optL_none (k : Nat) : List.replicate k ((0 : Int), (0 : Int)) = optL (fun _ => none) k := by
  unfold optL
  apply List.ext_getElem?
  intro i
  by_cases h : i < k
  · rw [List.getElem?_replicate, if_pos h, List.getElem?_map, List.getElem?_range h]; rfl
  · rw [List.getElem?_eq_none (by simp; omega), List.getElem?_eq_none (by simp; omega)]
theorem optL_set {r : Rl} {k x : Nat} {q : Rat} (_ : x < k) : (optL r k).set x (q.num, (q.den : Int)) = optL (upd r x (some q)) k := by
  apply List.ext_getElem?
  intro i
  rw [List.getElem?_set]
  by_cases e : x = i
  · subst e
    by_cases h : x < k
    · rw [if_pos rfl, if_pos (by simp [optL]; exact h), optL_get h, upd_same]; rfl
    · omega
  · rw [if_neg e]
    by_cases h : i < k
    · rw [optL_get h, optL_get h, upd_other _ _ _ (fun h => e h.symm)]
    · rw [List.getElem?_eq_none (by simp [optL]; omega), List.getElem?_eq_none (by simp [optL]; omega)]
theorem optL_rel0 {k f : Nat} (hf : f < k) : (List.replicate k ((0 : Int), (0 : Int))).set f (1, 1) = optL (rel0 f) k := by
  have h := optL_set (r := fun _ => none) (q := 1) hf
  rw [← optL_none] at h
  have e : upd (fun _ => none) f (some (1 : Rat)) = rel0 f := by
    funext x
    unfold upd rel0
    rfl
  rw [e] at h
  exact h
theorem PrB.kept {w w' : World} {g B : Nat} {S : List Nat} {t : TypeId} {ps : List (Int × Int)} (h : PrB w g t ps) (hb : Kept B S w w') (hg : g < B) (hn : g ∉ S) : PrB w' g t ps := Blk.kept h hb hg hn
section
variable {k m : Nat} {r : Rl}
theorem RB.sz (hk : k ≤ 3) (h : RB k r m) {x : Nat} {q : Rat} (hq : r x = some q) : 0 < q.num ∧ q.num ≤ 400 ∧ (q.den : Int) ≤ 400 := by
  obtain ⟨A, D, a, d1, d2, a1, a2, a3, e1, e2⟩ := (h.rs hk).ex
  obtain ⟨c1, c2, c3, c4⟩ := e2 x q hq
  have := frac_pos (by omega) (by omega) c1
  omega
theorem RB.sum (hk : k ≤ 3) (h : RB k r m) : (∀ j, j ≤ k → 0 ≤ (sumR r j).num ∧ (sumR r j).num ≤ 1200 ∧ ((sumR r j).den : Int) ≤ 400) ∧ 0 < (sumR r k).num := by
  obtain ⟨A, D, a, d1, d2, a1, a2, a3, e1, e2⟩ := (h.rs hk).ex
  have hs : ∀ x, (r x).isSome = true → 1 ≤ a x ∧ a x ≤ 400 := fun x hx => by
    obtain ⟨q, hq⟩ := Option.isSome_iff_exists.1 hx
    have := e2 x q hq
    exact ⟨this.2.1, this.2.2.2⟩
  refine ⟨fun j hj => ?_, (frac_pos (by omega) (by omega) e1).1⟩
  have h1 := sumR_eq d1 (fun x q hq => (e2 x q hq).1) j
  obtain ⟨s1, s2⟩ := sumZ_cnt (by decide) hs j
  have hc := cntS_le r j
  have s3 : (cntS r j : Int) * 400 ≤ 3 * 400 := by omega
  have b1 := frac_bd (by omega) h1
  have b2 := frac_nn (by omega) (by omega) h1
  omega
theorem RB.fac (hk : k ≤ 3) (h : RB k r m) {b : Int} (hb : 0 ≤ b ∧ b ≤ 60) : 0 ≤ ((b : Rat) / sumR r k).num ∧ ((b : Rat) / sumR r k).num ≤ 24000 ∧ (((b : Rat) / sumR r k).den : Int) ≤ 1200 := by
  obtain ⟨A, D, a, d1, d2, a1, a2, a3, e1, e2⟩ := (h.rs hk).ex
  have hA : A ≤ 1200 := by
    have := cntS_le r k
    have h3 : cntS r k = 1 ∨ cntS r k = 2 ∨ cntS r k = 3 := by omega
    rcases h3 with e | e | e <;> rw [e] at a2 <;> exact Int.le_trans a2 (by decide)
  have e : (b : Rat) / sumR r k = ((b * D : Int) : Rat) / (A : Rat) := by
    rw [e1, Rat.intCast_mul]
    have x1 : ((A : Int) : Rat) ≠ 0 := rat_ne (by omega)
    have x2 : ((D : Int) : Rat) ≠ 0 := rat_ne (by omega)
    generalize (b : Rat) = bb
    generalize (A : Rat) = aa at *
    generalize (D : Rat) = dd at *
    grind
  have n1 : (0 : Int) ≤ b * D := Int.mul_nonneg hb.1 (by omega)
  have n2 : b * D ≤ 60 * 400 := Int.mul_le_mul hb.2 d2 (by omega) (by omega)
  have b1 := frac_bd (by omega) e
  have b2 := frac_nn (by omega) n1 e
  omega
end
/-- Of of two numbers of use. -/
theorem rof_div (a b : Int) (w : World) (ha : 1 ≤ a ∧ a ≤ 20) (hb : 1 ≤ b ∧ b ≤ 20) : (Calls Try.prog 41 #[.int .i64 a, .int .i64 b] w fun e w' => e = .returned (.agg #[.int .i64 (((a : Int) : Rat) / ((b : Int) : Rat)).num, .int .i64 ((((a : Int) : Rat) / ((b : Int) : Rat)).den : Int)]) ∧ Below w.heap.size w w') ∧
    0 < (((a : Int) : Rat) / ((b : Int) : Rat)).num ∧ (((a : Int) : Rat) / ((b : Int) : Rat)).num ≤ 20 ∧ ((((a : Int) : Rat) / ((b : Int) : Rat)).den : Int) ≤ 20 := by
  have h := rof_any a b w (by omega) (by omega) (by omega) (by omega)
  rw [Rat.divInt_eq_div] at h
  have h2 := frac_pos (q := ((a : Int) : Rat) / ((b : Int) : Rat)) (by omega) (by omega) rfl
  exact ⟨h, by omega⟩
theorem rof_int (a : Int) (w : World) (ha : 0 ≤ a ∧ a ≤ 1000) : Calls Try.prog 41 #[.int .i64 a, .int .i64 1] w fun e w' => e = .returned (.agg #[.int .i64 a, .int .i64 1]) ∧ Below w.heap.size w w' := by
  have h := rof_any a 1 w (by omega) (by omega) (by omega) (by omega)
  have e : Rat.divInt a 1 = (a : Rat) := by rw [Rat.divInt_eq_div]; show (a : Rat) / 1 = _; grind
  rw [e] at h
  unfold fr at h
  rw [Rat.num_intCast, Rat.den_intCast] at h
  exact h
end Go.Proofs.Ytnljnjnmhbkdoaa
