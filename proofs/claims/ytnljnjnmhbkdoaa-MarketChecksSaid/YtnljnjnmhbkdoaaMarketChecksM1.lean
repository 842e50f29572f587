/- Laws and contracts that the proof of MarketChecks uses, part 7. -/
import Derived.Test.YtnljnjnmhbkdoaaBaseM2
import Derived.Test.YtnljnjnmhbkdoaaBaseM1
import Derived.Test.YtnljnjnmhbkdoaaBaseM6
import Derived.Test.YtnljnjnmhbkdoaaBaseM5
import Derived.Deep.RegionLaw
import Derived.Test.YtnljnjnmhbkdoaaBaseM3
namespace Go.Proofs.Ytnljnjnmhbkdoaa
open Go.RowKit

/- Contract: slices.Equal of ints. -/

set_option maxHeartbeats 800000 in
theorem equal_any (A A' : Option Addr) (n n' cap cap' : Nat) (ps qs : List Int) (w : World) (hl : ps.length = n) (hl' : qs.length = n') (hm : n ≤ 9223372036854775807) (h : Ints w A ps) (h' : Ints w A' qs) :
    Calls Try.prog 34 #[.slice A n cap, .slice A' n' cap'] w fun e w' => e = .returned (.bool (eqB ps qs)) ∧ ∃ m, w' = w.drewN m := by
  by_cases hnn : n = n'
  · subst hnn
    by_cases h0 : n = 0
    · subst h0
      obtain rfl := List.eq_nil_of_length_eq_zero hl
      obtain rfl := List.eq_nil_of_length_eq_zero hl'
      go_enter Try.func34, Try.ntmps34
      go_wp2
      refine wp_loop_rounds 1 ?_
      rw [rounds_succ]
      go_wp2
      go_ret
      exact ⟨rfl, 0, rfl⟩
    · obtain ⟨ad, rfl, _, hc⟩ := h.some_ (by omega)
      obtain ⟨ad', rfl, _, hc'⟩ := h'.some_ (by omega)
      have H := Lib.hid (And.intro hl (And.intro hl' (And.intro hc hc')))
      clear hl hl' hc hc' h h'
      go_enter Try.func34, Try.ntmps34
      go_wp2
      go_loopw [13] (fun iv wr => ∃ k : Nat, k ≤ n ∧ iv = .int .i64 k ∧ ps.take k = qs.take k ∧ ∃ m, wr = w.drewN m) (fun iv _ => n - (intOf iv).toNat)
      case atStart => exact ⟨0, Nat.zero_le _, rfl, rfl, 0, rfl⟩
      case round =>
        obtain ⟨k, hk, rfl, ht, m, rfl⟩ := hrel
        have HT := Lib.hid ht
        clear ht
        obtain ⟨hl, hl', hc, hc'⟩ := H.out
        by_cases hlt : k < n
        · obtain ⟨p, hp⟩ : ∃ p, ps[k]? = some p := ⟨_, List.getElem?_eq_getElem (by omega)⟩
          obtain ⟨q, hq⟩ : ∃ q, qs[k]? = some q := ⟨_, List.getElem?_eq_getElem (by omega)⟩
          have c1 := hc k p hp
          have c2 := hc' k q hq
          have HP := Lib.hid (And.intro hp hq)
          clear hp hq hc hc' hl hl'
          by_cases he : p = q
          · subst he
            go_wp2_with fail
            go_quiet (fail)
            go_wp2_with fail
            go_roundw
            case rel => exact ⟨k + 1, by omega, by go_num, take_eq_succ HP.out.1 HP.out.2 HT.out, by first | exact ⟨_, rfl⟩ | exact ⟨_, World.drewN_drewN _ _ _⟩⟩
            case measure => simp [intOf]; omega
          · have hne : (p != q) = true := by simpa using he
            have HNE := Lib.hid he
            clear he
            go_wp2_with fail
            go_quiet (fail)
            go_wp2_with fail
            go_ret
            exact ⟨ret_bool (eqB_at HP.out.1 HP.out.2 HNE.out).symm, by first | exact ⟨_, rfl⟩ | exact ⟨_, World.drewN_drewN _ _ _⟩⟩
        · obtain rfl : k = n := by omega
          have HF : Hid (eqB ps qs = true) := Lib.hid (eqB_all hl hl' HT.out)
          clear hl hl' hc hc'
          go_wp2
          go_ret
          exact ⟨ret_bool HF.out.symm, m, rfl⟩
  · have HF : Hid (eqB ps qs = false) := Lib.hid (eqB_len (by omega))
    have hne : ((n : Int) != (n' : Int)) = true := by rw [bne_iff_ne]; omega
    clear hl hl' h h'
    go_enter Try.func34, Try.ntmps34
    go_wp2
    go_ret
    exact ⟨ret_bool HF.out.symm, 0, rfl⟩

/- MarketWants: the walk. -/

theorem I64s.take {ps : List (Int × Int)} (h : I64s ps) (k : Nat) : I64s (ps.take k) := fun p hp => h p (List.mem_of_mem_take hp)
theorem prsOk_take {B : List Int} {V : List (List Int)} (hv : validM B V = true) (ps : List (Int × Int)) : prsOk V (ps.take 6) = prsOk V ps := by
  have hg := (validM_iff.1 hv).2.1.2
  by_cases h : ps.length ≤ 6
  · rw [List.take_of_length_le h]
  · unfold prsOk
    rw [decide_eq_false (show ¬ (ps.take 6).length = goodsN V by rw [List.length_take]; omega), decide_eq_false (show ¬ ps.length = goodsN V by omega), Bool.and_false, Bool.and_false]
theorem prs_small {B : List Int} {V : List (List Int)} (hv : validM B V = true) {ps : List (Int × Int)} (h : prsOk V ps = true) : ps.length = goodsN V ∧ ps.take 6 = ps ∧ ps.all (okF 1) = true := by
  have hg := (validM_iff.1 hv).2.1.2
  unfold prsOk at h
  rw [Bool.and_eq_true, decide_eq_true_eq] at h
  exact ⟨h.2, List.take_of_length_le (by omega), h.1⟩
theorem wantF_none {B : List Int} {V : List (List Int)} {ps : List (Int × Int)} (h : validM B V = false ∨ prsOk V ps = false) : wantF B V (ps.take 6) = none := by
  unfold wantF
  cases hv : validM B V with
  | false => rfl
  | true =>
    rcases h with h | h
    · rw [hv] at h; cases h
    · rw [prsOk_take hv, h]; rfl
theorem wantF_yes {B : List Int} {V : List (List Int)} {ps : List (Int × Int)} (hv : validM B V = true) (h : prsOk V ps = true) : wantF B V (ps.take 6) = some ((List.range B.length).map fun i => wantS (rowV V i) (toQ ps)) := by
  unfold wantF
  rw [prsOk_take hv, hv, h, (prs_small hv h).2.1]
  rfl
set_option maxRecDepth 100000 in
set_option maxHeartbeats 4000000 in
theorem law_mwants (A : Option Addr) (n c : Nat) (U : Option Addr) (m d : Nat) (B : List Int) (V : List (List Int)) (P : Option Addr) (cp : Nat) (ps : List (Int × Int)) (W : World) (hK : MktArg W A n c U m d B V) (hpc : ps.length ≤ cp) (hpm : cp ≤ 9223372036854775807) (hP : Prs W P ps) (hi : I64s ps) :
    Calls Try.prog 10 #[mktV A n c U m d, .slice P ps.length cp] W fun e w' => e = .returned (.bool true) ∧ Below W.heap.size W w' := by
  have hC1 := Ch.start W A n c U m d
  obtain ⟨w1, hw1⟩ : ∃ w1, w1 = W.alloc (.cells #[.slice A n c, .slice U m d] 25) := ⟨_, rfl⟩
  rw [← hw1] at hC1
  obtain ⟨lp, hlp⟩ : ∃ lp, lp = ps.length := ⟨_, rfl⟩
  rw [← hlp] at hpc ⊢
  have HK := Lib.hid (And.intro hK (And.intro hP (And.intro hi hlp)))
  have HC1 := Lib.hid hC1
  obtain ⟨m1, m2, _, _⟩ := hC1.1.at2
  clear hK hC1 hP hi hlp
  unfold mktV
  go_enter Try.func10, Try.ntmps10
  go_wp2_with fail
  rw [← hw1]
  clear hw1
  refine ((HK.out.1.below HC1.out.2).of).mono ?_
  rintro e w2 ⟨A2, n2, c2, U2, q2, d2, b2, vs2, rfl, hO2⟩
  have HC2 := Lib.hid (HC1.out.next hO2.below)
  have HO2 := Lib.hid hO2
  clear hO2 m1 m2
  go_wp2_with fail
  refine (l4prices_any P lp cp ps w2 HK.out.2.2.2.symm hpc hpm (HK.out.2.1.below HC2.out.2)).mono ?_
  rintro e w3 ⟨A3, c3, rfl, hown3, hb3⟩
  have HC3 := Lib.hid (HC2.out.next hb3)
  have hl3 : (ps.take 6).length = min lp 6 := by rw [List.length_take, HK.out.2.2.2]; omega
  obtain ⟨l3, hl3'⟩ : ∃ l3, l3 = min lp 6 := ⟨_, rfl⟩
  rw [← hl3'] at hl3 ⊢
  have h36 : l3 ≤ 6 := by omega
  have HW := Lib.hid (of_want HO2.out hb3 A3 l3 c3 (ps.take 6) (At.of_own hown3) hl3 (by omega) (HK.out.2.2.1.take 6))
  clear hown3 hb3 hl3 hl3'
  go_wp2_with fail
  refine HW.out.mono ?_
  intro ev w4 hpost
  unfold WantPost at hpost
  obtain ⟨hb4, hpost⟩ := hpost
  have HC4 := Lib.hid (HC3.out.next hb4)
  obtain ⟨m1, m2, _, _⟩ := HC4.out.1.at2
  clear hb4 HW
  have HV := Lib.hid (HK.out.1.below HC4.out.2).valid
  cases hv : validM B V with
  | false =>
    rw [wantF_none (.inl hv)] at hpost
    subst hpost
    rw [hv] at HV
    clear hv
    go_wp2_with fail
    refine HV.out.mono ?_
    rintro e w5 ⟨rfl, hb5⟩
    have HC5 := Lib.hid (HC4.out.next hb5)
    clear hb5
    go_wp2_with fail
    refine (l4awake_any _).mono ?_
    rintro e w6 ⟨rfl, hb6⟩
    have HC6 := Lib.hid (HC5.out.next hb6)
    clear hb6
    go_wp2_with fail
    go_ret
    exact ⟨rfl, HC6.out.2⟩
  | true =>
    have HVA := Lib.hid hv
    rw [hv] at HV
    cases hpk : prsOk V ps with
    | false =>
      rw [wantF_none (.inr hpk)] at hpost
      subst hpost
      have HPK := Lib.hid hpk
      clear hv hpk
      go_wp2_with fail
      refine HV.out.mono ?_
      rintro e w5 ⟨rfl, hb5⟩
      have HC5 := Lib.hid (HC4.out.next hb5)
      clear hb5 m1 m2
      obtain ⟨m1, m2, _, _⟩ := HC5.out.1.at2
      have HRP := Lib.hid (r4prices_any A n c U m d P cp B V ps w5 (HK.out.1.mkt.below HC5.out.2) (by have := (validM_iff.1 HVA.out).1; have := HK.out.1.mkt.hV; omega) (HK.out.2.1.below HC5.out.2) (by rw [← HK.out.2.2.2]; omega) HK.out.2.2.1)
      rw [← HK.out.2.2.2, HPK.out] at HRP
      go_wp2_with fail
      refine HRP.out.mono ?_
      rintro e w6 ⟨rfl, hb6⟩
      have HC6 := Lib.hid (HC5.out.next hb6)
      clear hb6
      go_wp2_with fail
      refine (l4awake_any _).mono ?_
      rintro e w7 ⟨rfl, hb7⟩
      have HC7 := Lib.hid (HC6.out.next hb7)
      clear hb7
      go_wp2_with fail
      go_ret
      exact ⟨rfl, HC7.out.2⟩
    | true =>
      rw [wantF_yes hv hpk] at hpost
      obtain ⟨A5, c5, rfl, hat⟩ := hpost
      have hsm := prs_small hv hpk
      have HPK := Lib.hid (And.intro hpk hsm)
      have hBn := HK.out.1.mkt.hB
      have e1 : ((List.range B.length).map fun i => wantS (rowV V i) (toQ ps)).length = n := by rw [List.length_map, List.length_range]; exact hBn
      rw [e1]
      have HAT := Lib.hid hat
      clear hv hpk hat e1 hsm
      go_wp2_with fail
      refine HV.out.mono ?_
      rintro e w5 ⟨rfl, hb5⟩
      have HC5 := Lib.hid (And.intro (HC4.out.next hb5) hb5)
      clear hb5 m1 m2
      obtain ⟨m1, m2, _, _⟩ := HC5.out.1.1.at2
      have HRP := Lib.hid (r4prices_any A n c U m d P cp B V ps w5 (HK.out.1.mkt.below HC5.out.1.2) (by have := (validM_iff.1 HVA.out).1; have := HK.out.1.mkt.hV; omega) (HK.out.2.1.below HC5.out.1.2) (by rw [← HK.out.2.2.2]; omega) HK.out.2.2.1)
      rw [← HK.out.2.2.2, HPK.out.1] at HRP
      go_wp2_with fail
      refine HRP.out.mono ?_
      rintro e w6 ⟨rfl, hb6⟩
      have HC6 := Lib.hid (And.intro (HC5.out.1.next hb6) (HC5.out.2.trans (hb6.mono HC5.out.2.size)))
      clear hb6 m1 m2
      obtain ⟨m1, m2, _, _⟩ := HC6.out.1.1.at2
      obtain ⟨rfl, hmk⟩ := mkIn_of (HK.out.1.mkt.below HC6.out.1.2) HVA.out
      have hl : lp = goodsN V := by rw [HK.out.2.2.2]; exact HPK.out.2.1
      have HRW := Lib.hid (r4want_any A m c U d (goodsN V) cp P B V (toQ ps) w6 hmk (by
        unfold Go.Proofs.Ytnljnjnmhbkdoaa.Fracs
        rw [toQ_pr HPK.out.2.2.2]
        exact HK.out.2.1.below HC6.out.1.2) (by rw [toQ_length]; exact HPK.out.2.1) (toQ_ok HPK.out.2.2.2))
      rw [← hl] at HRW
      have hm3 := hmk.hn
      clear hl hmk
      go_wp2_with fail
      refine HRW.out.mono ?_
      rintro e w7 ⟨A7, c7, rfl, hat7, hb7⟩
      have HC7 := Lib.hid (HC6.out.1.next hb7)
      have hat5 := (HAT.out.below HC6.out.2).below hb7
      have e2 : ((List.range B.length).map fun i => wantS (rowV V i) (toQ ps)).map (fun (s : Nat) => Value.int .i64 (s : Int)) = ((List.range m).map fun i => ((wantS (rowV V i) (toQ ps) : Nat) : Int)).map (Value.int .i64) := by rw [List.map_map, List.map_map, hBn]; rfl
      have e3 : wantV V (toQ ps) m = ((List.range m).map fun i => ((wantS (rowV V i) (toQ ps) : Nat) : Int)).map (Value.int .i64) := by unfold wantV; rw [List.map_map]; rfl
      rw [e2] at hat5
      rw [e3] at hat7
      have HEQ := Lib.hid (equal_any A5 A7 m m c5 c7 _ _ w7 (by simp) (by simp) (by omega) hat5 hat7)
      clear hat5 hat7 e2 e3 hb7 m1 m2
      go_wp2_with fail
      refine HEQ.out.mono ?_
      rintro e w8 ⟨rfl, m8, rfl⟩
      have HC8 : Hid (Below W.heap.size W (w7.drewN m8)) := Lib.hid (below_drewN HC7.out.2 m8)
      rw [show ∀ l : List Int, eqB l l = true from fun l => decide_eq_true rfl]
      clear HEQ
      go_wp2_with fail
      refine (l4awake_any _).mono ?_
      rintro e w9 ⟨rfl, hb9⟩
      have HC9 := Lib.hid (HC8.out.trans (hb9.mono HC8.out.size))
      clear hb9
      go_wp2_with fail
      go_ret
      exact ⟨rfl, HC9.out⟩

/- What Check says of what Prices and Spend return, and of others: laws. -/

section
variable {B : List Int} {V : List (List Int)} {r : List Rat × List (List Rat)}
theorem sps_okF (hP : prF B V = some r) {x : List Rat} (hx : x ∈ r.2) : (x.map pr).all (okF 0) = true := by
  obtain ⟨hv, hs⟩ := prF_ok hP
  have hE := hs.equi hv
  rw [List.all_eq_true]
  intro y hy
  obtain ⟨q, hq, rfl⟩ := List.mem_map.1 hy
  obtain ⟨i, hi⟩ := List.getElem?_of_mem hx
  obtain ⟨g, hg⟩ := List.getElem?_of_mem hq
  have hil : i < B.length := by rw [← hs.ls]; exact (List.getElem?_eq_some_iff.1 hi).1
  have hgl : g < goodsN V := by rw [← hs.lr x hx]; exact (List.getElem?_eq_some_iff.1 hg).1
  have hq0 : 0 ≤ q := by
    have h1 := hE.nn i g hil hgl
    unfold spd rowQ at h1
    rw [List.getD_eq_getElem?_getD, List.getD_eq_getElem?_getD, hi] at h1
    simp only [Option.getD_some] at h1
    rwa [hg] at h1
  obtain ⟨a1, a2, a3⟩ := hs.ss x hx q hq
  have hd := den_pos q
  exact okF_iff.2 ⟨Rat.num_nonneg.2 hq0, by omega, by omega, by omega, rat_lowest q⟩
theorem sps_i64 (hP : prF B V = some r) {x : List (Int × Int)} (hx : x ∈ r.2.map (·.map pr)) : I64s x := by
  obtain ⟨hv, hs⟩ := prF_ok hP
  obtain ⟨y, hy, rfl⟩ := List.mem_map.1 hx
  intro z hz
  obtain ⟨q, hq, rfl⟩ := List.mem_map.1 hz
  obtain ⟨a1, a2, a3⟩ := hs.ss y hy q hq
  have hd := den_pos q
  simp only [pr]
  omega
theorem chk_sol (hP : prF B V = some r) : chkB B V (r.1.map pr) (r.2.map (·.map pr)) = true := by
  obtain ⟨hv, hs⟩ := prF_ok hP
  have e2 : (r.2.map (·.map pr)).map toQ = r.2 := by
    rw [List.map_map]
    conv => rhs; rw [← List.map_id r.2]
    exact List.map_congr_left fun x _ => toQ_of_pr x
  have h1 : prsOk V (r.1.map pr) = true := by
    unfold prsOk
    rw [prices_okF hs.ps, List.length_map, decide_eq_true hs.lp]
    rfl
  have h2 : (r.2.map (·.map pr)).all (rowSp V) = true := by
    rw [List.all_eq_true]
    intro x hx
    obtain ⟨y, hy, rfl⟩ := List.mem_map.1 hx
    unfold rowSp
    rw [sps_okF hP hy, List.length_map, decide_eq_true (hs.lr y hy)]
    rfl
  unfold chkB
  rw [h1, h2, List.length_map, decide_eq_true hs.ls, e2, toQ_of_pr, hs.bal]
  rfl
theorem chk_only (hP : prF B V = some r) {ps : List (Int × Int)} {L : List (List (Int × Int))} (h : chkB B V ps L = true) : ps = r.1.map pr := by
  obtain ⟨hv, hs⟩ := prF_ok hP
  obtain ⟨hm, h2, h3⟩ := mkOk_of hv
  unfold chkB at h
  simp only [Bool.and_eq_true, decide_eq_true_eq] at h
  obtain ⟨hp, _, _, hb⟩ := h
  unfold prsOk at hp
  rw [Bool.and_eq_true, decide_eq_true_eq] at hp
  have hl : (toQ ps).length = goodsN V := by rw [toQ_length]; exact hp.2
  have hE := (bal_equi rfl hl (fun q hq => (toQ_ok hp.1 q hq).pos) h2 (fun i g => (h3 i g).1)).1 hb
  have hu := hE.unique (hs.equi hv) hm.un hm.us
  have e : toQ ps = r.1 := by
    apply List.ext_getElem?
    intro g
    by_cases hg : g < goodsN V
    · have h4 := hu g hg
      unfold priQ at h4
      rw [List.getD_eq_getElem?_getD, List.getD_eq_getElem?_getD] at h4
      rw [List.getElem?_eq_getElem (by omega), List.getElem?_eq_getElem (by rw [hs.lp]; exact hg)] at h4 ⊢
      simp only [Option.getD_some] at h4
      rw [h4]
    · rw [List.getElem?_eq_none (by omega), List.getElem?_eq_none (by rw [hs.lp]; omega)]
  rw [← e, toQ_pr hp.1]
/-- The prices sum to the budgets. -/
theorem sum_prices (hP : prF B V = some r) : sumF (priQ r.1) (goodsN V) = ((sumZ (fun i => B.getD i 0) B.length : Int) : Rat) := by
  obtain ⟨hv, hs⟩ := prF_ok hP
  have hE := hs.equi hv
  rw [sumF_Q, ← sumZ_Q]
  show sumQ (priQ r.1) (goodsN V) = sumQ (budQ B) B.length
  rw [← sumQ_congr fun i hi => hE.row i hi, sq_swap]
  exact (sumQ_congr fun g hg => hE.col g hg).symm
end

/- The worth of what a buyer gets: laws. -/

/-- A worth, and its size. -/
def WoS (q : Rat) : Prop := 1 ≤ q.num ∧ q.num ≤ 480000 ∧ (q.den : Int) ≤ 48000
section
variable {B : List Int} {V : List (List Int)} {r : List Rat × List (List Rat)}
theorem wor_form (hv : validM B V = true) (h : SolR B V B.length (goodsN V) r) {i : Nat} (hi : i < B.length) : ∃ g0, g0 < goodsN V ∧ 0 < useN V i g0 ∧ worTo V r.1 r.2 i (goodsN V) * priQ r.1 g0 = useQ V i g0 * budQ B i ∧
    ∀ g, g < goodsN V → useQ V i g * priQ r.1 g0 ≤ useQ V i g0 * priQ r.1 g := by
  obtain ⟨hm, _, hu⟩ := mkOk_of hv
  have hE := h.equi hv
  have hex : ∃ g0, g0 < goodsN V ∧ spd r.2 i g0 ≠ 0 := by
    by_cases hx : ∃ g0, g0 < goodsN V ∧ spd r.2 i g0 ≠ 0
    · exact hx
    · exfalso
      have h1 := hE.row i hi
      rw [sumQ_zero fun g hg => by
        by_cases h2 : spd r.2 i g = 0
        · exact h2
        · exact absurd ⟨g, hg, h2⟩ hx] at h1
      have := hm.bp i hi
      grind
  obtain ⟨g0, hg0, hs0⟩ := hex
  have hp0 := hE.pos g0 hg0
  have hu0 := hE.use hm.us hi hg0 hs0
  have hw0 := hE.want i g0 hi hg0 hs0
  refine ⟨g0, hg0, ?_, ?_, hw0⟩
  · unfold useQ at hu0
    exact_mod_cast hu0
  · unfold worTo
    rw [← sq_mulr]
    have e : ∀ g, g < goodsN V → worQ V r.1 r.2 i g * priQ r.1 g0 = useQ V i g0 * spd r.2 i g := fun g hg => by
      unfold worQ
      have hp := hE.pos g hg
      by_cases h2 : spd r.2 i g = 0
      · rw [h2, Rat.mul_zero, Rat.div_def, Rat.zero_mul, Rat.zero_mul, Rat.mul_zero]
      · have h3 := hE.want i g hi hg h2 g0 hg0
        have h4 := hw0 g hg
        have h5 : useQ V i g * priQ r.1 g0 = useQ V i g0 * priQ r.1 g := Rat.le_antisymm h4 h3
        have hne : priQ r.1 g ≠ 0 := by grind
        generalize useQ V i g = a at *
        generalize useQ V i g0 = a0 at *
        generalize priQ r.1 g = pg at *
        generalize priQ r.1 g0 = pg0 at *
        generalize spd r.2 i g = s at *
        grind
    rw [sumQ_congr e, sumQ_mul]
    show useQ V i g0 * sumQ (spd r.2 i) (goodsN V) = _
    rw [hE.row i hi]
theorem fair_ge (hv : validM B V = true) (h : SolR B V B.length (goodsN V) r) {i g : Nat} (hi : i < B.length) (hg : g < goodsN V) : useQ V i g * budQ B i ≤ worTo V r.1 r.2 i (goodsN V) * priQ r.1 g := by
  obtain ⟨g0, hg0, _, e, hw⟩ := wor_form hv h hi
  obtain ⟨hm, _, _⟩ := mkOk_of hv
  have hE := h.equi hv
  have hp0 := hE.pos g0 hg0
  have h1 := hw g hg
  have hb := hm.bp i hi
  have h2 := Rat.mul_le_mul_of_nonneg_left (c := budQ B i) h1 (Rat.le_of_lt hb)
  refine Rat.le_of_mul_le_mul_right (c := priQ r.1 g0) ?_ hp0
  generalize worTo V r.1 r.2 i (goodsN V) = W at *
  generalize useQ V i g = a at *
  generalize useQ V i g0 = a0 at *
  generalize priQ r.1 g = pg at *
  generalize priQ r.1 g0 = pg0 at *
  generalize budQ B i = b at *
  have e2 : W * pg * pg0 = b * (a0 * pg) := by grind
  rw [e2]
  have e3 : a * b * pg0 = b * (a * pg0) := by grind
  rw [e3]
  exact h2
theorem fair_sum (hv : validM B V = true) (h : SolR B V B.length (goodsN V) r) {i : Nat} (hi : i < B.length) : sumQ (useQ V i) (goodsN V) * budQ B i ≤ worTo V r.1 r.2 i (goodsN V) * sumQ (budQ B) B.length := by
  have hE := h.equi hv
  have e : sumQ (budQ B) B.length = sumQ (priQ r.1) (goodsN V) := by
    rw [← sumQ_congr fun i hi => hE.row i hi, sq_swap]
    exact sumQ_congr fun g hg => hE.col g hg
  rw [e, ← sumQ_mul, ← sq_mulr]
  exact sq_mono fun g hg => fair_ge hv h hi hg
theorem fair_sm (hv : validM B V = true) (h : SolR B V B.length (goodsN V) r) {i : Nat} (hi : i < B.length) : WoS (worTo V r.1 r.2 i (goodsN V)) := by
  obtain ⟨g0, hg0, hu0, e, _⟩ := wor_form hv h hi
  have hE := h.equi hv
  have hp0 := hE.pos g0 hg0
  have hP := pri_sm h hg0
  have hub := (mkOk_of hv).2.2 i g0
  obtain ⟨⟨a1, a2, a3, a4⟩, b1, b2, b3⟩ := validM_iff.1 hv
  have hbi := a3 (B.getD i 0) (by
    rw [List.getD_eq_getElem?_getD, List.getElem?_eq_getElem hi]
    exact List.getElem_mem _)
  unfold useQ budQ at e
  generalize worTo V r.1 r.2 i (goodsN V) = W at *
  generalize useN V i g0 = u at *
  generalize B.getD i 0 = b at *
  generalize priQ r.1 g0 = p at *
  obtain ⟨p1, p2, p3⟩ := hP
  have hpd0 := den_pos p
  have eW : W = ((u * b * p.den : Int) : Rat) / ((p.num : Int) : Rat) := by
    rw [Rat.intCast_mul, Rat.intCast_mul]
    have hp' := num_den_of p
    have a2 : ((p.den : Int) : Rat) ≠ 0 := rat_ne (by omega)
    have a3 : (p.num : Rat) ≠ 0 := rat_ne (by omega)
    generalize ((p.den : Int) : Rat) = pd at *
    generalize (p.num : Rat) = pn at *
    subst hp'
    grind
  have h1 : 1 * 1 ≤ u * b ∧ u * b ≤ 20 * 20 := ⟨Int.mul_le_mul (by omega) hbi.1 (by omega) (by omega), Int.mul_le_mul hub.2 hbi.2 (by omega) (by omega)⟩
  have h2 : 1 * 1 ≤ u * b * (p.den : Int) ∧ u * b * (p.den : Int) ≤ 400 * 1200 := ⟨Int.mul_le_mul (by omega) (by omega) (by omega) (by omega), Int.mul_le_mul (by omega) p3 (by omega) (by omega)⟩
  have h4 := frac_bd (by omega) eW
  have h5 := frac_nn (by omega) (by omega) eW
  have h6 : W.num ≠ 0 := fun h0 => by
    have hz := Rat.num_eq_zero.1 h0
    rw [hz, Rat.zero_mul] at e
    have : (u : Rat) * (b : Rat) ≠ 0 := by
      rw [← Rat.intCast_mul]
      exact rat_ne (by omega)
    exact this e.symm
  unfold WoS
  omega
end
theorem mulq_bd {p q : Rat} (hp : 0 ≤ p.num) (hq : 0 ≤ q.num) : 0 ≤ (p * q).num ∧ (p * q).num ≤ p.num * q.num ∧ ((p * q).den : Int) ≤ p.den * q.den := by
  have hpd := den_pos p
  have hqd := den_pos q
  have h0 : 0 < (p.den : Int) * q.den := Int.mul_pos hpd hqd
  have e : p * q = ((p.num * q.num : Int) : Rat) / (((p.den : Int) * q.den : Int) : Rat) := by
    rw [Rat.intCast_mul, Rat.intCast_mul]
    have hp' := num_den_of p
    have hq' := num_den_of q
    have a1 : ((p.den : Int) : Rat) ≠ 0 := rat_ne (by omega)
    have a2 : ((q.den : Int) : Rat) ≠ 0 := rat_ne (by omega)
    generalize ((p.den : Int) : Rat) = pd at *
    generalize ((q.den : Int) : Rat) = qd at *
    generalize (p.num : Rat) = pn at *
    generalize (q.num : Rat) = qn at *
    subst hp'
    subst hq'
    grind
  have h1 : 0 ≤ p.num * q.num := Int.mul_nonneg hp hq
  have h4 := frac_bd h0 e
  have h5 := frac_nn h0 h1 e
  generalize p.num * q.num = a at *
  generalize (p.den : Int) * q.den = c at *
  omega
theorem wmul_sm {p q : Rat} (hp : WoS p) (hq : PrS q) : (0 ≤ (p * q).num ∧ (p * q).num ≤ 23040000000) ∧ ((p * q).den : Int) ≤ 57600000 := by
  obtain ⟨p1, p2, p3⟩ := hp
  obtain ⟨q1, q2, q3⟩ := hq
  obtain ⟨h1, h2, h3⟩ := mulq_bd (p := p) (q := q) (by omega) (by omega)
  have hpd := den_pos p
  have hqd := den_pos q
  have a1 : p.num * q.num ≤ 480000 * 48000 := Int.mul_le_mul p2 q2 (by omega) (by omega)
  have a2 : (p.den : Int) * q.den ≤ 48000 * 1200 := Int.mul_le_mul p3 q3 (by omega) (by omega)
  omega
theorem wmul_use (p q : Rat) (w : World) (hp : WoS p) (hq : PrS q) : Calls Try.prog 19 #[.agg #[.int .i64 p.num, .int .i64 (p.den : Int)], .agg #[.int .i64 q.num, .int .i64 (q.den : Int)]] w fun e w' => e = .returned (.agg #[.int .i64 (p * q).num, .int .i64 ((p * q).den : Int)]) ∧ Below w.heap.size w w' := by
  obtain ⟨p1, p2, p3⟩ := hp
  obtain ⟨q1, q2, q3⟩ := hq
  have hpd := den_pos p
  have hqd := den_pos q
  have a0 : 0 ≤ p.num * q.num := Int.mul_nonneg (by omega) (by omega)
  have a1 : p.num * q.num ≤ 480000 * 48000 := Int.mul_le_mul p2 q2 (by omega) (by omega)
  have a2 : (p.den : Int) * q.den ≤ 48000 * 1200 := Int.mul_le_mul p3 q3 (by omega) (by omega)
  exact rmul_raw p q w (by omega) (by omega) (by omega)
theorem wall_use (p : Rat) (z : Int) (w : World) (hp : WoS p) (hz : 0 ≤ z ∧ z ≤ 1000) : (Calls Try.prog 19 #[.agg #[.int .i64 p.num, .int .i64 (p.den : Int)], .agg #[.int .i64 z, .int .i64 1]] w fun e w' => e = .returned (.agg #[.int .i64 (p * (z : Rat)).num, .int .i64 ((p * (z : Rat)).den : Int)]) ∧ Below w.heap.size w w') ∧
    (0 ≤ (p * (z : Rat)).num ∧ (p * (z : Rat)).num ≤ 480000000) ∧ ((p * (z : Rat)).den : Int) ≤ 48000 := by
  obtain ⟨p1, p2, p3⟩ := hp
  obtain ⟨h1, h2, h3⟩ := mulq_bd (p := p) (q := (z : Rat)) (by omega) (by rw [Rat.num_intCast]; omega)
  rw [Rat.num_intCast] at h2
  rw [Rat.den_intCast] at h3
  have hpd := den_pos p
  have a0 : 0 ≤ p.num * z := Int.mul_nonneg (by omega) hz.1
  have a1 : p.num * z ≤ 480000 * 1000 := Int.mul_le_mul p2 hz.2 hz.1 (by omega)
  have h4 := rmul_raw p (z : Rat) w (by rw [Rat.num_intCast]; omega) (by rw [Rat.num_intCast]; omega) (by rw [Rat.den_intCast]; omega)
  unfold fr at h4
  rw [Rat.num_intCast, Rat.den_intCast] at h4
  exact ⟨h4, ⟨h1, by omega⟩, by omega⟩
theorem wless_use (x : Rat) (z : Int) (w : World) (h1 : (0 ≤ x.num ∧ x.num ≤ 23040000000) ∧ (x.den : Int) ≤ 57600000) (hz : 0 ≤ z ∧ z ≤ 10000) (h : ((z : Int) : Rat) ≤ x) : Calls Try.prog 22 #[.agg #[.int .i64 x.num, .int .i64 (x.den : Int)], .agg #[.int .i64 z, .int .i64 1]] w fun e w' => e = .returned (.bool false) ∧ Below w.heap.size w w' := by
  have hd := den_pos x
  have a0 : 0 ≤ z * (x.den : Int) := Int.mul_nonneg hz.1 (by omega)
  have a1 : z * (x.den : Int) ≤ 10000 * 57600000 := Int.mul_le_mul hz.2 h1.2 (by omega) (by omega)
  have h4 := rless_any x (z : Rat) w (by rw [Rat.den_intCast]; omega) (by rw [Rat.den_intCast]; omega) (by rw [Rat.num_intCast]; omega) (by rw [Rat.num_intCast]; omega)
  unfold fr at h4
  rw [Rat.num_intCast, Rat.den_intCast, decide_eq_false (by grind)] at h4
  exact h4

/- MarketFair: the walk. -/

theorem w64 {z : Int} (h : -1000000000000 ≤ z ∧ z ≤ 1000000000000) : wrap64 z = z := by
  unfold wrap64
  go_num
theorem sumZ_bd {f : Nat → Int} {m : Int} {n : Nat} (h : ∀ i, i < n → 0 ≤ f i ∧ f i ≤ m) : 0 ≤ sumZ f n ∧ sumZ f n ≤ m * n := by
  induction n with
  | zero => simp [sumZ]
  | succ n ih =>
    have h1 := ih fun i hi => h i (by omega)
    have h2 := h n (by omega)
    have e : m * ((n + 1 : Nat) : Int) = m * (n : Int) + m := by rw [Int.natCast_add, Int.mul_add]; simp
    rw [e]
    simp only [sumZ]
    omega
/-- Making a fraction's variable. -/
theorem al_frac7 {Q : Exit → Act → World → Prop} (o : Oper) (a : Act) (w' : World) (K : Act → World → Prop) (ho : isAl 37 o = true) (hK : K (a.put o.dst (ptrB w'.heap.size)) (w'.alloc (.cells #[.int .i64 0, .int .i64 0] 37))) : o.wp Try.prog a w' K Q := by
  unfold isAl at ho
  split at ho
  · rename_i t ht
    simp only [Bool.and_eq_true, beq_iff_eq] at ho
    obtain ⟨rfl, _⟩ := ho
    unfold Oper.wp execOp
    rw [ht]
    have hr : ∀ w : World, (newVar 37 (.agg #[.int .i64 0, .int .i64 0])).run Try.prog w = .ok ⟨w.heap.size, 0, none⟩ (w.alloc (.cells #[.int .i64 0, .int .i64 0] 37)) := fun w => by kernel_rfl
    simp [go_sem, Oper.upon]
    exact hK
  · cases ho
theorem run_eq_frac7 (p q : Rat) (w : World) : (binOp .eql 37 (.agg #[.int .i64 p.num, .int .i64 (p.den : Int)]) (.agg #[.int .i64 q.num, .int .i64 (q.den : Int)])).run Try.prog w = .ok (.bool (decide (p = q))) w := by
  have e0 : decide (p = q) = (decide (p.num = q.num) && decide ((p.den : Int) = (q.den : Int))) := by
    rw [Bool.eq_iff_iff]
    simp only [decide_eq_true_eq, Bool.and_eq_true]
    exact ⟨by rintro rfl; exact ⟨rfl, rfl⟩, fun h => Rat.ext h.1 (by omega)⟩
  rw [e0]
  by_cases h1 : p.num = q.num
  · by_cases h2 : (p.den : Int) = (q.den : Int)
    · simp only [h1, h2]; go_simp
    · simp only [h1]; go_simp
  · go_simp
theorem l4whole_use (n : Int) (w : World) : Calls Try.prog 20 #[.int .i64 n] w fun e w' => e = .returned (.agg #[.int .i64 n, .int .i64 1]) ∧ Below w.heap.size w w' :=
  (l4whole_any n w).mono fun _ _ h => ⟨h.1, h.2⟩
/-- Whether one of the first goods is as good as can be. -/
def besTo (V : List (List Int)) (P : List Rat) (W : Rat) (b : Int) (i : Nat) : Nat → Bool
  | 0 => false
  | g + 1 => besTo V P W b i g || decide (W * priQ P g = ((useN V i g * b : Int) : Rat))
theorem besTo_of {V : List (List Int)} {P : List Rat} {W : Rat} {b : Int} {i k g0 : Nat} (h0 : g0 < k) (h : W * priQ P g0 = ((useN V i g0 * b : Int) : Rat)) : besTo V P W b i k = true := by
  induction k with
  | zero => omega
  | succ k ih =>
    simp only [besTo, Bool.or_eq_true, decide_eq_true_eq]
    rcases Nat.lt_or_ge g0 k with h1 | h1
    · exact .inl (ih h1)
    · exact .inr (by rw [show k = g0 by omega]; exact h)
set_option maxRecDepth 100000 in
set_option maxHeartbeats 4000000 in
theorem law_mfair (A : Option Addr) (n c : Nat) (U : Option Addr) (m d : Nat) (B : List Int) (V : List (List Int)) (W : World) (hK : MktArg W A n c U m d B V) :
    Calls Try.prog 8 #[mktV A n c U m d] W fun e w' => e = .returned (.bool true) ∧ Below W.heap.size W w' := by
  have hC1 := Ch.start W A n c U m d
  obtain ⟨w1, hw1⟩ : ∃ w1, w1 = W.alloc (.cells #[.slice A n c, .slice U m d] 25) := ⟨_, rfl⟩
  rw [← hw1] at hC1
  have HK := Lib.hid hK
  have HC1 := Lib.hid hC1
  obtain ⟨m1, m2, _, _⟩ := hC1.1.at2
  clear hK hC1
  unfold mktV
  go_enter Try.func8, Try.ntmps8
  go_wp2_with fail
  rw [← hw1]
  clear hw1
  refine ((HK.out.below HC1.out.2).of).mono ?_
  rintro e w2 ⟨A2, n2, c2, U2, q2, d2, b2, vs2, rfl, hO2⟩
  have HC2 := Lib.hid (HC1.out.next hO2.below)
  have HO2 := Lib.hid hO2
  clear hO2 m1 m2
  go_wp2_with fail
  refine (of_prices HO2.out).mono ?_
  intro ev w3 hpost
  unfold PricesPost at hpost
  obtain ⟨hb3, hpost⟩ := hpost
  have HC3 := Lib.hid (HC2.out.next hb3)
  clear hb3
  obtain ⟨m1, m2, _, _⟩ := HC3.out.1.at2
  cases hp : prF B V with
  | none =>
    rw [hp] at hpost
    subst hpost
    have HP := Lib.hid hp
    clear hp
    go_wp2_with fail
    refine ((HK.out.below HC3.out.2).of).mono ?_
    rintro e w4 ⟨A4, n4, c4, U4, q4, d4, b4, vs4, rfl, hO4⟩
    have HC4 := Lib.hid (HC3.out.next hO4.below)
    have HO4 := Lib.hid hO4
    clear hO4 m1 m2
    go_wp2_with fail
    refine (of_worth HO4.out).mono ?_
    intro ev w5 hpost
    unfold WorthPost at hpost
    rw [HP.out] at hpost
    obtain ⟨hb5, rfl⟩ := hpost
    have HC5 := Lib.hid (HC4.out.next hb5)
    clear hb5
    go_wp2_with fail
    refine (l4awake_any _).mono ?_
    rintro e w6 ⟨rfl, hb6⟩
    have HC6 := Lib.hid (HC5.out.next hb6)
    clear hb6
    go_wp2_with fail
    go_ret
    exact ⟨rfl, HC6.out.2⟩
  | some r =>
    rw [hp] at hpost
    obtain ⟨PA, pc, rfl, hown3⟩ := hpost
    have hpr := prF_ok hp
    have hpl := hpr.2.lp
    have hg3 := (validM_iff.1 hpr.1).2.1
    have hn3 := (validM_iff.1 hpr.1).1
    have hnB := HK.out.mkt.hB
    obtain ⟨k, hk⟩ : ∃ k, k = goodsN V := ⟨_, rfl⟩
    rw [← hk] at hg3 hpl
    have hfr3 := Fracs.of_cells (At.of_own hown3)
    have HP := Lib.hid (And.intro hp (And.intro hpr (And.intro hpl (And.intro hk hn3))))
    have HF3 := Lib.hid hfr3
    rw [hpl]
    have hn13 : 1 ≤ n ∧ n ≤ 3 := by omega
    clear hp hpr hpl hk hown3 hfr3 hn3
    go_wp2_with fail
    refine ((HK.out.below HC3.out.2).of).mono ?_
    rintro e w4 ⟨A4, n4, c4, U4, q4, d4, b4, vs4, rfl, hO4⟩
    have HC4 := Lib.hid (HC3.out.next hO4.below)
    have HO4 := Lib.hid hO4
    have HF4 := Lib.hid (HF3.out.below hO4.below')
    clear hO4 m1 m2
    go_wp2_with fail
    refine (of_worth HO4.out).mono ?_
    intro ev w5 hpost
    unfold WorthPost at hpost
    rw [HP.out.1] at hpost
    obtain ⟨hb5, WA, wc5, rfl, hF5⟩ := hpost
    have HC5 := Lib.hid (HC4.out.next hb5)
    have HF5 := Lib.hid (And.intro (HF4.out.below hb5) hF5)
    obtain ⟨m1, m2, _, _⟩ := HC5.out.1.at2
    have HV := Lib.hid (HK.out.below HC5.out.2).valid
    rw [HP.out.2.1.1] at HV
    rw [hnB]
    clear hb5 hF5
    go_wp2_with fail
    refine HV.out.mono ?_
    rintro e w6 ⟨rfl, hb6⟩
    have HC6 := Lib.hid (HC5.out.next hb6)
    have HF6 := Lib.hid (And.intro (HF5.out.1.below hb6) (HF5.out.2.below hb6))
    clear hb6 m1 m2 HV
    obtain ⟨m1, m2, _, _⟩ := HC6.out.1.at2
    have hmV := HK.out.mkt.hV
    have hvl := (validM_iff.1 HP.out.2.1.1).1
    have HRP := Lib.hid (r4prices_any A n c U m d PA pc B V (r.1.map pr) w6 (HK.out.mkt.below HC6.out.2) (by omega) HF6.out.1 (by rw [List.length_map, HP.out.2.2.1]; omega) (prices_i64 HP.out.2.1.2.ps))
    have hpk : prsOk V (r.1.map pr) = true := by
      unfold prsOk
      rw [prices_okF HP.out.2.1.2.ps, List.length_map, decide_eq_true HP.out.2.1.2.lp]
      rfl
    rw [hpk, List.length_map, HP.out.2.2.1] at HRP
    clear hpk hvl
    go_wp2_with fail
    refine HRP.out.mono ?_
    rintro e w7 ⟨rfl, hb7⟩
    have HC7 := Lib.hid (HC6.out.next hb7)
    have HF7 := Lib.hid (And.intro (HF6.out.1.below hb7) (HF6.out.2.below hb7))
    clear hb7 m1 m2 HRP
    obtain ⟨m1, m2, _, _⟩ := HC7.out.1.at2
    obtain ⟨aB, hA, hAl, hcB⟩ := HK.out.mkt.budgets.some_ (by omega)
    have hbd : ∀ i, i < n → 0 ≤ B.getD i 0 ∧ B.getD i 0 ≤ 20 := fun i hi => by
      have := HP.out.2.2.2.2.2.2.1 (B.getD i 0) (by
        rw [List.getD_eq_getElem?_getD, List.getElem?_eq_getElem (by omega)]
        exact List.getElem_mem _)
      omega
    have hgB : ∀ i, i < n → B[i]? = some (B.getD i 0) := fun i hi => by
      rw [List.getD_eq_getElem?_getD, List.getElem?_eq_getElem (by omega)]; rfl
    have HB := Lib.hid (And.intro hAl (And.intro hcB (And.intro hbd (And.intro hgB hnB))))
    subst hA
    clear hAl hcB hbd hgB
    go_wp2_with fail
    clear m1 m2
    go_loopw [7, 65] (fun av iv wx => ∃ i : Nat, i ≤ n ∧ iv = .int .i64 i ∧ av = .int .i64 (sumZ (fun i => B.getD i 0) i) ∧ Below w7.heap.size w7 wx) (fun _ iv _ => n - (intOf iv).toNat)
    case atStart => exact ⟨0, Nat.zero_le _, rfl, rfl, Below.refl _ _⟩
    case round =>
      obtain ⟨i, hi, rfl, rfl, hbl⟩ := hrel
      have HR := Lib.hid hbl
      clear hbl
      by_cases hin : i < n
      · have hb7 := HC7.out.2.trans (HR.out.mono HC7.out.2.size)
        have hx := HB.out.2.1 i _ (HB.out.2.2.2.1 i hin)
        have c1 := (hb7.cell (lt_of_cell hx)).trans hx
        have hs := sumZ_bd (f := fun i => B.getD i 0) (m := 20) (n := i) (fun j hj => HB.out.2.2.1 j (by omega))
        have hb := HB.out.2.2.1 i hin
        have hnx : sumZ (fun i => B.getD i 0) (i + 1) = sumZ (fun i => B.getD i 0) i + B.getD i 0 := rfl
        generalize sumZ (fun i => B.getD i 0) i = s at *
        generalize B.getD i 0 = b at *
        have hw : wrap64 (s + b) = s + b := w64 (by omega)
        have HN := Lib.hid hnx
        clear hnx hx hb7
        go_wp2_with fail
        go_roundw
        case rel => exact ⟨i + 1, by omega, by go_num, by rw [HN.out], HR.out⟩
        case measure => simp [intOf]; omega
      · obtain rfl : n = i := by omega
        have HC8 := Lib.hid (And.intro (HC7.out.next HR.out) HR.out)
        obtain ⟨w8, rfl⟩ : ∃ w8 : World, w8 = wr := ⟨_, rfl⟩
        obtain ⟨m1, m2, _, _⟩ := HC8.out.1.1.at2
        have HF8 := Lib.hid (And.intro (HF7.out.1.below HR.out) (HF7.out.2.below HR.out))
        obtain ⟨all, hall⟩ : ∃ s, s = sumZ (fun i => B.getD i 0) n := ⟨_, rfl⟩
        have hab := sumZ_bd (f := fun i => B.getD i 0) (m := 20) (n := n) (fun j hj => HB.out.2.2.1 j (by omega))
        rw [← hall] at hab ⊢
        have HALL := Lib.hid hall
        clear hall
        go_wp2_with fail
        clear m1 m2
        go_loopw [76] (fun iv wx => ∃ i : Nat, i ≤ n ∧ iv = .int .i64 i ∧ Below w8.heap.size w8 wx) (fun iv _ => n - (intOf iv).toNat)
        case atStart => exact ⟨0, Nat.zero_le _, rfl, Below.refl _ _⟩
        case round =>
          obtain ⟨i, hi, rfl, hbl⟩ := hrel
          obtain ⟨wo, rfl⟩ : ∃ wo : World, wo = wr := ⟨_, rfl⟩
          have HR2 := Lib.hid hbl
          have HC9 := Lib.hid (HC8.out.1.next hbl)
          clear hbl
          by_cases hin : i < n
          · have hiB : i < B.length := by omega
            have hsm := fair_sm HP.out.2.1.1 HP.out.2.1.2 hiB
            have hgW : (worL V B.length (goodsN V) r)[i]? = some (worTo V r.1 r.2 i (goodsN V)) := by
              unfold worL
              rw [List.getElem?_map, List.getElem?_range hiB]; rfl
            obtain ⟨aW, hWA, _, hcW⟩ := (HF8.out.2.below HR2.out).some_ (by unfold worL; rw [List.length_map, List.length_range]; omega)
            subst hWA
            obtain ⟨v1, v2⟩ := hcW i _ hgW
            have hx := HB.out.2.1 i _ (HB.out.2.2.2.1 i hin)
            have c1 := (HC9.out.2.cell (lt_of_cell hx)).trans hx
            have hb := HB.out.2.2.1 i hin
            obtain ⟨Wi, hWi⟩ : ∃ q, q = worTo V r.1 r.2 i (goodsN V) := ⟨_, rfl⟩
            rw [← hWi] at hsm v1 v2
            obtain ⟨b, hbe⟩ : ∃ b, b = B.getD i 0 := ⟨_, rfl⟩
            rw [← hbe] at c1 hb
            have HWI := Lib.hid (And.intro hWi (And.intro hbe (And.intro v1 (And.intro v2 hsm))))
            obtain ⟨s1, s2, s3⟩ := hsm
            have hlow : lowB Wi.num Wi.den = true := by
              have hd := den_pos Wi
              unfold lowB
              rw [decide_eq_true (by omega), decide_eq_true (by omega), rat_lowest Wi]
              rfl
            have HLO := Lib.hid fun w' => rlowest_any Wi.num Wi.den w' (by omega) (by omega) (by omega)
            rw [hlow] at HLO
            have n1 : ¬ Wi.num < 1 := by omega
            have n2 : ¬ (1048576 : Int) < Wi.num := by omega
            have n3 : ¬ (1048576 : Int) < (Wi.den : Int) := by omega
            clear hgW hcW hx hWi hbe hlow s1 s2 s3
            go_wp2_with fail
            refine (HLO.out _).mono ?_
            rintro e w10 ⟨rfl, hb10⟩
            have HC10 := Lib.hid (And.intro (HC9.out.next hb10) (HR2.out.trans (hb10.mono HR2.out.size)))
            clear v1 v2 HLO
            have v1 := (hb10.cell (lt_of_cell HWI.out.2.2.1)).trans HWI.out.2.2.1
            have v2 := (hb10.cell (lt_of_cell HWI.out.2.2.2.1)).trans HWI.out.2.2.2.1
            obtain ⟨m1, m2, _, _⟩ := HC10.out.1.1.at2
            have HUM := Lib.hid (HK.out.mkt.uses.below HC10.out.1.2)
            obtain ⟨aU, hUA, _, hcU⟩ := HUM.out.some_ (by have := (validM_iff.1 HP.out.2.1.1).1.2.2.2; omega)
            subst hUA
            have hiV : i < V.length := by have := (validM_iff.1 HP.out.2.1.1).1.2.2.2; omega
            obtain ⟨aR0, cR, hcR, _, _, hIR⟩ := hcU i _ (rowV_some hiV)
            have hrl : (rowV V i).length = k := by rw [HP.out.2.2.2.1]; exact (mkOk_of HP.out.2.1.1).2.1 i hiB
            rw [hrl] at hcR
            obtain ⟨aR, rfl, _, hcI⟩ := hIR.some_ (by rw [hrl]; omega)
            have hug : ∀ g, g < k → 0 ≤ useN V i g ∧ useN V i g ≤ 20 := fun g _ => (mkOk_of HP.out.2.1.1).2.2 i g
            have hcu : ∀ g, g < k → w10.cell? (aR.add g) = some (.int .i64 (useN V i g)) := fun g hg => hcI g _ (by
              unfold useN
              rw [List.getD_eq_getElem?_getD, List.getElem?_eq_getElem (by omega)]; rfl)
            have l1 : (i : Int) < (m : Int) := by have := HK.out.mkt.hV; omega
            have HU := Lib.hid (And.intro hug hcu)
            clear hcU hIR hcI hrl hug hcu HUM hiV
            go_wp2_with fail
            clear hcR m1 m2 v1 v2
            have HV10 := Lib.hid (And.intro ((hb10.cell (lt_of_cell HWI.out.2.2.1)).trans HWI.out.2.2.1) ((hb10.cell (lt_of_cell HWI.out.2.2.2.1)).trans HWI.out.2.2.2.1))
            clear hb10
            go_loopw [12, 13, 117] (fun sv bv iv wx => ∃ g : Nat, g ≤ k ∧ iv = .int .i64 g ∧ sv = .int .i64 (sumZ (fun g => useN V i g) g) ∧ bv = .bool (besTo V r.1 Wi b i g) ∧ Below w10.heap.size w10 wx) (fun _ _ iv _ => k - (intOf iv).toNat)
            case atStart => exact ⟨0, Nat.zero_le _, rfl, rfl, rfl, Below.refl _ _⟩
            case round =>
              obtain ⟨g, hg, rfl, rfl, rfl, hbl⟩ := hrel
              obtain ⟨wi, rfl⟩ : ∃ wi : World, wi = wr := ⟨_, rfl⟩
              have HR3 := Lib.hid hbl
              clear hbl
              have hs := sumZ_bd (f := fun g => useN V i g) (m := 20) (n := g) (fun j hj => HU.out.1 j (by omega))
              by_cases hgk : g < k
              · have hgG : g < goodsN V := by rw [← HP.out.2.2.2.1]; exact hgk
                have hge := fair_ge HP.out.2.1.1 HP.out.2.1.2 hiB hgG
                have hps := pri_sm HP.out.2.1.2 hgG
                have hx := HU.out.2 g hgk
                have c2 := (HR3.out.cell (lt_of_cell hx)).trans hx
                have hu := HU.out.1 g hgk
                have hgp : r.1[g]? = some (priQ r.1 g) := by
                  unfold priQ
                  rw [List.getD_eq_getElem?_getD, List.getElem?_eq_getElem (by rw [HP.out.2.2.1]; exact hgk)]; rfl
                obtain ⟨aP, hPA, _, hcP⟩ := ((HF8.out.1.below HC10.out.2).below HR3.out).some_ (by rw [HP.out.2.2.1]; omega)
                subst hPA
                obtain ⟨p1, p2⟩ := hcP g _ hgp
                have v1 := (HR3.out.cell (lt_of_cell HV10.out.1)).trans HV10.out.1
                have v2 := (HR3.out.cell (lt_of_cell HV10.out.2)).trans HV10.out.2
                have hnx : sumZ (fun g => useN V i g) (g + 1) = sumZ (fun g => useN V i g) g + useN V i g := rfl
                have hbx : besTo V r.1 Wi b i (g + 1) = (besTo V r.1 Wi b i g || decide (Wi * priQ r.1 g = ((useN V i g * b : Int) : Rat))) := rfl
                have hubd : 0 ≤ useN V i g * b ∧ useN V i g * b ≤ 400 := by
                  have h1 := Int.mul_nonneg hu.1 hb.1
                  have h2 : useN V i g * b ≤ 20 * 20 := Int.mul_le_mul hu.2 hb.2 hb.1 (by omega)
                  omega
                have hge' : ((useN V i g * b : Int) : Rat) ≤ Wi * priQ r.1 g := by
                  rw [HWI.out.1, HWI.out.2.1, Rat.intCast_mul]
                  exact hge
                have HQ := Lib.hid (And.intro hnx (And.intro hbx (And.intro hps (And.intro hge' (And.intro p1 (And.intro p2 (And.intro v1 v2)))))))
                clear hge hps hx hgp hcP p1 p2 v1 v2 hnx hbx hge' hgG
                generalize sumZ (fun g => useN V i g) g = s at *
                generalize besTo V r.1 Wi b i g = bt at *
                generalize useN V i g = u at *
                generalize priQ r.1 g = pg at *
                have hw : wrap64 (s + u) = s + u := w64 (by omega)
                obtain ⟨z, hz⟩ : ∃ z, z = u * b := ⟨_, rfl⟩
                have hwm : wrap64 (u * b) = z := by rw [hz]; exact w64 (by omega)
                rw [← hz] at hubd HQ
                have l3 : (g : Int) < (k : Int) := by omega
                have l4 : (0 : Int) ≤ (g : Int) := by omega
                have l5 : (i : Int) < (n : Int) := by omega
                have l6 : (0 : Int) ≤ (i : Int) := by omega
                clear hz
                go_upto_region 23 with fail
                have HMU := Lib.hid fun w' => wmul_use Wi pg w' HWI.out.2.2.2.2 HQ.out.2.2.1
                have hxs := wmul_sm HWI.out.2.2.2.2 HQ.out.2.2.1
                have hlx := HQ.out.2.2.2.1
                have hbx := HQ.out.2.1
                obtain ⟨x, hx⟩ : ∃ x, x = Wi * pg := ⟨_, rfl⟩
                rw [← hx] at HMU hxs hlx hbx
                have HLS := Lib.hid fun w' => wless_use x z w' hxs (by omega) hlx
                have HWH := Lib.hid fun w' => l4whole_use z w'
                have HBX := Lib.hid (And.intro HQ.out.1 hbx)
                have hqe := run_eq_frac7 x ((z : Int) : Rat)
                rw [Rat.num_intCast, Rat.den_intCast] at hqe
                have d1 : ∀ A' (s : DescA wi 37 #[.int .i64 0, .int .i64 0] A'), s.val.cell? (aW.add (i * 2)) = some (.int .i64 Wi.num) := fun A' s => s.cell HQ.out.2.2.2.2.2.2.1
                have d2 : ∀ A' (s : DescA wi 37 #[.int .i64 0, .int .i64 0] A'), s.val.cell? ⟨(aW.add (i * 2)).block, (aW.add (i * 2)).off + 1, none⟩ = some (.int .i64 (Wi.den : Int)) := fun A' s => s.cell HQ.out.2.2.2.2.2.2.2
                have d3 : ∀ A' (s : DescA wi 37 #[.int .i64 0, .int .i64 0] A'), s.val.cell? (aP.add (g * 2)) = some (.int .i64 pg.num) := fun A' s => s.cell HQ.out.2.2.2.2.1
                have d4 : ∀ A' (s : DescA wi 37 #[.int .i64 0, .int .i64 0] A'), s.val.cell? ⟨(aP.add (g * 2)).block, (aP.add (g * 2)).off + 1, none⟩ = some (.int .i64 (pg.den : Int)) := fun A' s => s.cell HQ.out.2.2.2.2.2.1
                have HD := Lib.hid (And.intro d1 (And.intro d2 (And.intro d3 d4)))
                have hws := HR3.out.size
                clear d1 d2 d3 d4 hxs hlx hbx c1 c2 hs hx
                refine' wp_region_desc_alloc 13 2 37 #[.int .i64 0, .int .i64 0] al_frac7 (by kernel_rfl) (by kernel_rfl) (by kernel_rfl) (by kernel_rfl) _ ?hh ?hq
                case hh =>
                  intro A' hne Q' hQ'
                  have e1 := HD.out.1 A'
                  have e2 := HD.out.2.1 A'
                  have e3 := HD.out.2.2.1 A'
                  have e4 := HD.out.2.2.2 A'
                  have HW2 : Hid (∀ sd : DescA wi 37 #[.int .i64 0, .int .i64 0] A', Calls Try.prog 20 #[.int .i64 z] sd.val fun e w'' => e = .returned (.agg #[.int .i64 z, .int .i64 1]) ∧ ∃ s' : DescA wi 37 #[.int .i64 0, .int .i64 0] A', w'' = s'.val) := Lib.hid fun sd => Calls.descA_of (HWH.out _)
                  have HM2 : Hid (∀ sd : DescA wi 37 #[.int .i64 0, .int .i64 0] A', Calls Try.prog 19 #[.agg #[.int .i64 Wi.num, .int .i64 (Wi.den : Int)], .agg #[.int .i64 pg.num, .int .i64 (pg.den : Int)]] sd.val fun e w'' => e = .returned (.agg #[.int .i64 x.num, .int .i64 (x.den : Int)]) ∧ ∃ s' : DescA wi 37 #[.int .i64 0, .int .i64 0] A', w'' = s'.val) := Lib.hid fun sd => Calls.descA_of (HMU.out _)
                  simp only [List.take_succ_cons, List.take_zero]
                  repeat (go_big_quiet_step (first | (go_at_call 20; exact HW2.out _) | (go_at_call 19; exact HM2.out _)))
                  refine wpQuiet_nil ?_
                  exact hQ'
                case hq =>
                  simp only [List.take_succ_cons, List.take_zero, List.drop_succ_cons, List.drop_zero]
                  intro g5 _ g6 hg6 sd
                  have hb3 := sd.below
                  obtain ⟨z5, B5⟩ := sd.blks g5 (.inr (.inl rfl))
                  obtain ⟨z6, B6⟩ := sd.blks g6 (.inl rfl)
                  have hne : g5 ≠ g6 := fun h => hg6 (.inl h.symm)
                  have hne2 : g6 ≠ g5 := fun h => hne h.symm
                  generalize sd.val = w4 at hb3 B5 B6 ⊢
                  obtain ⟨a0, a1, k0, k1⟩ := B5.at2
                  obtain ⟨b0, b1, m0, m1⟩ := B6.at2
                  have hb4 := ((((HR3.out.trans (hb3.mono hws)).setCell (p := ⟨g5, 0, none⟩) (by show w10.heap.size ≤ g5; omega) (.int .i64 x.num)).setCell (p := ⟨g5, 1, none⟩) (by show w10.heap.size ≤ g5; omega) (.int .i64 (x.den : Int))).setCell (p := ⟨g6, 0, none⟩) (by show w10.heap.size ≤ g6; omega) (.int .i64 z)).setCell (p := ⟨g6, 1, none⟩) (by show w10.heap.size ≤ g6; omega) (.int .i64 1)
                  have hX := ((((B5.set_ 0 (.int .i64 x.num)).set_ 1 (.int .i64 (x.den : Int))).far (p := ⟨g6, 0, none⟩) hne (.int .i64 z)).far (p := ⟨g6, 1, none⟩) hne (.int .i64 1))
                  have hY := (((B6.far (p := ⟨g5, 0, none⟩) hne2 (.int .i64 x.num)).far (p := ⟨g5, 1, none⟩) hne2 (.int .i64 (x.den : Int))).set_ 0 (.int .i64 z)).set_ 1 (.int .i64 1)
                  have H4 := Lib.hid (And.intro hb4 (And.intro hX (And.intro hY (And.intro hX.lt hY.lt))))
                  clear hb3 hb4 B5 B6 hg6 hX hY
                  unfold ptrB
                  go_wp2_with fail
                  refine (HLS.out _).mono ?_
                  rintro e w11 ⟨rfl, hb11⟩
                  have HB11 := Lib.hid (H4.out.1.trans (hb11.mono H4.out.1.size))
                  obtain ⟨x0, x1, _, _⟩ := (H4.out.2.1.below hb11 H4.out.2.2.2.1).at2
                  obtain ⟨y0, y1, _, _⟩ := (H4.out.2.2.1.below hb11 H4.out.2.2.2.2).at2
                  clear a0 a1 k0 k1 b0 b1 m0 m1 hb11 hne hne2
                  cases bt with
                  | true =>
                    go_wp2_with fail
                    go_roundw
                    case rel => exact ⟨g + 1, by omega, by go_num, by rw [HBX.out.1], by rw [HBX.out.2, Bool.true_or], HB11.out⟩
                    case measure => simp [intOf]; omega
                  | false =>
                    by_cases h1 : x.num = z
                    · by_cases h2 : (x.den : Int) = 1
                      · have hxz : decide (x = ((z : Int) : Rat)) = true := decide_eq_true (Rat.ext (by rw [Rat.num_intCast]; exact h1) (by rw [Rat.den_intCast]; omega))
                        rw [h1] at x0
                        rw [h2] at x1
                        have HXZ := Lib.hid hxz
                        clear h1 h2 hxz hqe
                        go_wp2_with fail
                        go_roundw
                        case rel => exact ⟨g + 1, by omega, by go_num, by rw [HBX.out.1], by rw [HBX.out.2, HXZ.out, Bool.false_or], HB11.out⟩
                        case measure => simp [intOf]; omega
                      · have hxz : decide (x = ((z : Int) : Rat)) = false := decide_eq_false (fun h => h2 (by rw [h, Rat.den_intCast]; rfl))
                        have HXZ := Lib.hid hxz
                        clear hxz hqe
                        go_wp2_with fail
                        go_roundw
                        case rel => exact ⟨g + 1, by omega, by go_num, by rw [HBX.out.1], by rw [HBX.out.2, HXZ.out, Bool.false_or], HB11.out⟩
                        case measure => simp [intOf]; omega
                    · have hxz : decide (x = ((z : Int) : Rat)) = false := decide_eq_false (fun h => h1 (by rw [h, Rat.num_intCast]))
                      have HXZ := Lib.hid hxz
                      clear hxz hqe
                      go_wp2_with fail
                      go_roundw
                      case rel => exact ⟨g + 1, by omega, by go_num, by rw [HBX.out.1], by rw [HBX.out.2, HXZ.out, Bool.false_or], HB11.out⟩
                      case measure => simp [intOf]; omega
              · obtain rfl : g = k := by omega
                obtain ⟨g0, hg0, hu0, heq, _⟩ := wor_form HP.out.2.1.1 HP.out.2.1.2 hiB
                have hbt : besTo V r.1 Wi b i g = true := besTo_of (g0 := g0) (by rw [HP.out.2.2.2.1]; exact hg0) (by rw [HWI.out.1, heq, HWI.out.2.1, Rat.intCast_mul]; rfl)
                have hsu := fair_sum HP.out.2.1.1 HP.out.2.1.2 hiB
                have hsu' : ((sumZ (fun g => useN V i g) g * b : Int) : Rat) ≤ Wi * ((all : Int) : Rat) := by
                  rw [HALL.out, HWI.out.1, HWI.out.2.1, Rat.intCast_mul, ← sumZ_Q, ← sumZ_Q, HP.out.2.2.2.1, ← hnB]
                  exact hsu
                rw [hbt]
                have hall2 := wall_use Wi all
                have hba : 0 ≤ all ∧ all ≤ 1000 := by omega
                have v1 := (HR3.out.cell (lt_of_cell HV10.out.1)).trans HV10.out.1
                have v2 := (HR3.out.cell (lt_of_cell HV10.out.2)).trans HV10.out.2
                generalize sumZ (fun g => useN V i g) g = s at *
                have hsb : 0 ≤ s * b ∧ s * b ≤ 1200 := by
                  have h1 := Int.mul_nonneg hs.1 hb.1
                  have h2 : s * b ≤ 60 * 20 := Int.mul_le_mul (by omega) hb.2 hb.1 (by omega)
                  omega
                obtain ⟨z, hz⟩ : ∃ z, z = s * b := ⟨_, rfl⟩
                have hwm : wrap64 (s * b) = z := by rw [hz]; exact w64 (by omega)
                rw [← hz] at hsb hsu'
                have hxs := (hall2 wi HWI.out.2.2.2.2 hba).2
                obtain ⟨x, hx⟩ : ∃ x, x = Wi * ((all : Int) : Rat) := ⟨_, rfl⟩
                rw [← hx] at hxs hsu'
                have HMU : Hid (∀ sd : Desc wi, Calls Try.prog 19 #[.agg #[.int .i64 Wi.num, .int .i64 (Wi.den : Int)], .agg #[.int .i64 all, .int .i64 1]] sd.val fun e w'' => e = .returned (.agg #[.int .i64 x.num, .int .i64 (x.den : Int)]) ∧ ∃ s' : Desc wi, w'' = s'.val) := Lib.hid fun sd => Calls.desc_of (by rw [hx]; exact (hall2 sd.val HWI.out.2.2.2.2 hba).1)
                have HWH : Hid (∀ (sd : Desc wi) (q : Int), Calls Try.prog 20 #[.int .i64 q] sd.val fun e w'' => e = .returned (.agg #[.int .i64 q, .int .i64 1]) ∧ ∃ s' : Desc wi, w'' = s'.val) := Lib.hid fun sd q => Calls.desc_of (l4whole_use q sd.val)
                have HLS : Hid (∀ sd : Desc wi, Calls Try.prog 22 #[.agg #[.int .i64 x.num, .int .i64 (x.den : Int)], .agg #[.int .i64 z, .int .i64 1]] sd.val fun e w'' => e = .returned (.bool false) ∧ ∃ s' : Desc wi, w'' = s'.val) := Lib.hid fun sd => Calls.desc_of (wless_use x z sd.val ⟨⟨hxs.1.1, by omega⟩, by omega⟩ (by omega) hsu')
                have d1 : ∀ sd : Desc wi, sd.val.cell? (aW.add (i * 2)) = some (.int .i64 Wi.num) := fun sd => sd.cell v1
                have d2 : ∀ sd : Desc wi, sd.val.cell? ⟨(aW.add (i * 2)).block, (aW.add (i * 2)).off + 1, none⟩ = some (.int .i64 (Wi.den : Int)) := fun sd => sd.cell v2
                have l5 : (i : Int) < (n : Int) := by omega
                have l6 : (0 : Int) ≤ (i : Int) := by omega
                clear hall2 v1 v2 hz hxs hsu hsu' heq hu0 hg0 hbt hx
                go_upto_region 28 with fail
                refine wp_region_desc (by kernel_rfl) (by kernel_rfl) ?_
                repeat (go_big_quiet_step (first | (go_at_call 20; exact HWH.out _ _) | (go_at_call 19; exact HMU.out _) | (go_at_call 22; exact HLS.out _)))
                refine wpQuiet_nil ?_
                rintro _ ⟨sd, rfl⟩
                have HBE := Lib.hid (HC10.out.2.trans ((HR3.out.trans (sd.below.mono HR3.out.size)).mono HC10.out.2.size))
                clear d1 d2
                go_wp2_with fail
                go_roundw
                case rel => exact ⟨i + 1, by omega, by go_num, HBE.out⟩
                case measure => simp [intOf]; omega
          · obtain rfl : n = i := by omega
            go_wp2_with fail
            refine (l4awake_any _).mono ?_
            rintro e w11 ⟨rfl, hb11⟩
            have HC11 := Lib.hid (HC9.out.next hb11)
            clear hb11
            go_wp2_with fail
            go_ret
            exact ⟨rfl, HC11.out.2⟩

/- MarketBalances: the walk. -/

theorem spsV_i64 {L : List (List (Int × Int))} (h : ∀ r ∈ L, I64s r) : ∀ r ∈ spsV L, I64s r := by
  intro r hr
  unfold spsV at hr
  obtain ⟨x, hx, rfl⟩ := List.mem_map.1 hr
  exact (h x (List.mem_of_mem_take hx)).take 6
theorem spsV_short (L : List (List (Int × Int))) : ∀ r ∈ spsV L, r.length ≤ 1000 := by
  intro r hr
  unfold spsV at hr
  obtain ⟨x, hx, rfl⟩ := List.mem_map.1 hr
  rw [List.length_take]; omega
set_option maxRecDepth 100000 in
set_option maxHeartbeats 4000000 in
theorem law_mbals (A : Option Addr) (n c : Nat) (U : Option Addr) (m d : Nat) (B : List Int) (V : List (List Int)) (P : Option Addr) (cp : Nat) (ps : List (Int × Int)) (S : Option Addr) (cs : Nat) (L : List (List (Int × Int))) (W : World) (hK : MktArg W A n c U m d B V)
    (hpc : ps.length ≤ cp) (hpm : cp ≤ 9223372036854775807) (hP : Prs W P ps) (hi : I64s ps) (hsc : L.length ≤ cs) (hsm : cs ≤ 9223372036854775807) (hS : CMat W S L) (hsi : ∀ r ∈ L, I64s r) :
    Calls Try.prog 13 #[mktV A n c U m d, .slice P ps.length cp, .slice S L.length cs] W fun e w' => e = .returned (.bool true) ∧ Below W.heap.size W w' := by
  have hC1 := Ch.start W A n c U m d
  obtain ⟨w1, hw1⟩ : ∃ w1, w1 = W.alloc (.cells #[.slice A n c, .slice U m d] 25) := ⟨_, rfl⟩
  rw [← hw1] at hC1
  obtain ⟨lp, hlp⟩ : ∃ lp, lp = ps.length := ⟨_, rfl⟩
  obtain ⟨ls, hls⟩ : ∃ ls, ls = L.length := ⟨_, rfl⟩
  rw [← hlp] at hpc ⊢
  rw [← hls] at hsc ⊢
  have HK := Lib.hid (And.intro hK (And.intro hP (And.intro hi (And.intro hlp (And.intro hS (And.intro hsi hls))))))
  have HC1 := Lib.hid hC1
  obtain ⟨m1, m2, _, _⟩ := hC1.1.at2
  clear hK hC1 hP hi hlp hS hsi hls
  unfold mktV
  go_enter Try.func13, Try.ntmps13
  go_wp2_with fail
  rw [← hw1]
  clear hw1
  refine ((HK.out.1.below HC1.out.2).of).mono ?_
  rintro e w2 ⟨A2, n2, c2, U2, q2, d2, b2, vs2, rfl, hO2⟩
  have HC2 := Lib.hid (HC1.out.next hO2.below)
  have HO2 := Lib.hid hO2
  clear hO2 m1 m2
  go_wp2_with fail
  refine (of_prices HO2.out).mono ?_
  intro ev w3 hpost
  unfold PricesPost at hpost
  obtain ⟨hb3, hpost⟩ := hpost
  have HC3 := Lib.hid (HC2.out.next hb3)
  clear hb3
  obtain ⟨m1, m2, _, _⟩ := HC3.out.1.at2
  cases hp : prF B V with
  | none =>
    rw [hp] at hpost
    subst hpost
    have hvf : validM B V = false := by
      cases hv : validM B V with
      | false => rfl
      | true =>
        obtain ⟨r, hr⟩ := found_any B V hv
        unfold prF at hp
        rw [if_pos hv, hr] at hp
        cases hp
    have HP := Lib.hid (And.intro hp hvf)
    clear hp hvf
    go_wp2_with fail
    refine ((HK.out.1.below HC3.out.2).of).mono ?_
    rintro e w4 ⟨A4, n4, c4, U4, q4, d4, b4, vs4, rfl, hO4⟩
    have HC4 := Lib.hid (HC3.out.next hO4.below)
    have HO4 := Lib.hid hO4
    clear hO4 m1 m2
    go_wp2_with fail
    refine (of_spend HO4.out).mono ?_
    intro ev w5 hpost
    unfold SpendPost at hpost
    rw [HP.out.1] at hpost
    obtain ⟨hb5, rfl⟩ := hpost
    have HC5 := Lib.hid (HC4.out.next hb5)
    obtain ⟨m1, m2, _, _⟩ := HC5.out.1.at2
    clear hb5
    go_wp2_with fail
    refine ((HK.out.1.below HC5.out.2).of).mono ?_
    rintro e w6 ⟨A6, n6, c6, U6, q6, d6, b6, vs6, rfl, hO6⟩
    have HC6 := Lib.hid (HC5.out.next hO6.below)
    have HO6 := Lib.hid hO6
    clear hO6 m1 m2
    go_wp2_with fail
    refine (l4prices_any P lp cp ps w6 HK.out.2.2.2.1.symm hpc hpm (HK.out.2.1.below HC6.out.2)).mono ?_
    rintro e w7 ⟨A7, c7, rfl, hown7, hb7⟩
    have HC7 := Lib.hid (HC6.out.next hb7)
    have hl7 : (ps.take 6).length = min lp 6 := by rw [List.length_take, HK.out.2.2.2.1]; omega
    obtain ⟨l7, hl7'⟩ : ∃ l7, l7 = min lp 6 := ⟨_, rfl⟩
    rw [← hl7'] at hl7 hown7 ⊢
    have h76 : l7 ≤ 6 := by omega
    have H7 := Lib.hid (And.intro (show Prs w7 A7 (ps.take 6) from At.of_own hown7) (And.intro hl7 hb7))
    clear hown7 hl7 hb7 hl7'
    go_wp2_with fail
    refine (l4spendings_any S ls cs L w7 HK.out.2.2.2.2.2.2.symm (by omega) (fun j ps hj => by
      obtain ⟨ad, A', c', h1, h2, h3, h4, h5⟩ := HK.out.2.2.2.2.1 j ps hj
      exact ⟨ad, A', c', h1, (HC7.out.2.cell (lt_of_cell h2)).trans h2, h3, h4, h5.below HC7.out.2⟩)).mono ?_
    rintro e w8 ⟨A8, q8, c8, rfl, hq8, hM8, hb8⟩
    have HC8 := Lib.hid (HC7.out.next hb8)
    have hq86 : q8 ≤ 6 := by rw [← hq8, spsV_length]; omega
    have HCK := Lib.hid (of_check HO6.out (H7.out.2.2.trans (hb8.mono H7.out.2.2.size)) A7 l7 c7 (ps.take 6) A8 q8 c8 (spsV L) (H7.out.1.below hb8) H7.out.2.1 (by omega) (HK.out.2.2.1.take 6) hM8 hq8 (by omega) (spsV_i64 HK.out.2.2.2.2.2.1) (spsV_short L))
    clear hq8 hM8 hb8
    go_wp2_with fail
    refine HCK.out.mono ?_
    rintro e w9 ⟨hb9, rfl⟩
    have HC9 := Lib.hid (HC8.out.next hb9)
    rw [HP.out.2]
    clear hb9
    go_wp2_with fail
    refine (l4awake_any _).mono ?_
    rintro e w10 ⟨rfl, hb10⟩
    have HC10 := Lib.hid (HC9.out.next hb10)
    clear hb10
    go_wp2_with fail
    go_ret
    exact ⟨rfl, HC10.out.2⟩
  | some r =>
    rw [hp] at hpost
    obtain ⟨PA, pc, rfl, hown3⟩ := hpost
    have hpr := prF_ok hp
    have hpl := hpr.2.lp
    have hg3 := (validM_iff.1 hpr.1).2.1
    have hn3 := (validM_iff.1 hpr.1).1
    obtain ⟨k, hk⟩ : ∃ k, k = goodsN V := ⟨_, rfl⟩
    rw [← hk] at hg3 hpl
    have hfr3 := Fracs.of_cells (At.of_own hown3)
    have HP := Lib.hid (And.intro hp (And.intro hpr (And.intro hpl (And.intro hk hn3))))
    have HF3 := Lib.hid hfr3
    rw [hpl]
    clear hp hpr hpl hk hown3 hfr3 hn3
    go_wp2_with fail
    refine ((HK.out.1.below HC3.out.2).of).mono ?_
    rintro e w4 ⟨A4, n4, c4, U4, q4, d4, b4, vs4, rfl, hO4⟩
    have HC4 := Lib.hid (HC3.out.next hO4.below)
    have HO4 := Lib.hid hO4
    have HF4 := Lib.hid (HF3.out.below hO4.below')
    clear hO4 m1 m2
    go_wp2_with fail
    refine (of_spend HO4.out).mono ?_
    intro ev w5 hpost
    unfold SpendPost at hpost
    rw [HP.out.1] at hpost
    obtain ⟨hb5, SA, sc, rfl, hm5⟩ := hpost
    have HC5 := Lib.hid (HC4.out.next hb5)
    have HF5 := Lib.hid (And.intro (HF4.out.below hb5) hm5)
    obtain ⟨sl, hsl⟩ : ∃ sl, sl = r.2.length := ⟨_, rfl⟩
    rw [← hsl]
    have HSL := Lib.hid (And.intro hsl (hsl.trans HP.out.2.1.2.ls))
    obtain ⟨m1, m2, _, _⟩ := HC5.out.1.at2
    clear hb5 hm5 hsl
    go_wp2_with fail
    refine ((HK.out.1.below HC5.out.2).of).mono ?_
    rintro e w6 ⟨A6, n6, c6, U6, q6, d6, b6, vs6, rfl, hO6⟩
    have HC6 := Lib.hid (HC5.out.next hO6.below)
    have HO6 := Lib.hid hO6
    have HF6 := Lib.hid (And.intro (HF5.out.1.below hO6.below') (HF5.out.2.below hO6.below'))
    clear hO6 m1 m2
    go_wp2_with fail
    refine (l4prices_any P lp cp ps w6 HK.out.2.2.2.1.symm hpc hpm (HK.out.2.1.below HC6.out.2)).mono ?_
    rintro e w7 ⟨A7, c7, rfl, hown7, hb7⟩
    have HC7 := Lib.hid (HC6.out.next hb7)
    have HF7 := Lib.hid (And.intro (HF6.out.1.below hb7) (HF6.out.2.below hb7))
    have hl7 : (ps.take 6).length = min lp 6 := by rw [List.length_take, HK.out.2.2.2.1]; omega
    obtain ⟨l7, hl7'⟩ : ∃ l7, l7 = min lp 6 := ⟨_, rfl⟩
    rw [← hl7'] at hl7 hown7 ⊢
    have h76 : l7 ≤ 6 := by omega
    have H7 := Lib.hid (And.intro (show Prs w7 A7 (ps.take 6) from At.of_own hown7) (And.intro hl7 hb7))
    clear hown7 hl7 hb7 hl7'
    go_wp2_with fail
    refine (l4spendings_any S ls cs L w7 HK.out.2.2.2.2.2.2.symm (by omega) (fun j ps hj => by
      obtain ⟨ad, A', c', h1, h2, h3, h4, h5⟩ := HK.out.2.2.2.2.1 j ps hj
      exact ⟨ad, A', c', h1, (HC7.out.2.cell (lt_of_cell h2)).trans h2, h3, h4, h5.below HC7.out.2⟩)).mono ?_
    rintro e w8 ⟨A8, q8, c8, rfl, hq8, hM8, hb8⟩
    have HC8 := Lib.hid (HC7.out.next hb8)
    have HF8 := Lib.hid (And.intro (HF7.out.1.below hb8) (HF7.out.2.below hb8))
    have hq86 : q8 ≤ 6 := by rw [← hq8, spsV_length]; omega
    have HCK := Lib.hid (of_check HO6.out (H7.out.2.2.trans (hb8.mono H7.out.2.2.size)) A7 l7 c7 (ps.take 6) A8 q8 c8 (spsV L) (H7.out.1.below hb8) H7.out.2.1 (by omega) (HK.out.2.2.1.take 6) hM8 hq8 (by omega) (spsV_i64 HK.out.2.2.2.2.2.1) (spsV_short L))
    clear hq8 hM8 hb8
    go_wp2_with fail
    refine HCK.out.mono ?_
    rintro e w9 ⟨hb9, rfl⟩
    have HC9 := Lib.hid (HC8.out.next hb9)
    have HF9 := Lib.hid (And.intro (HF8.out.1.below hb9) (HF8.out.2.below hb9))
    rw [if_pos HP.out.2.1.1]
    obtain ⟨ck, hck⟩ : ∃ b, b = chkB B V (ps.take 6) (spsV L) := ⟨_, rfl⟩
    rw [← hck]
    have HCB := Lib.hid hck
    obtain ⟨m1, m2, _, _⟩ := HC9.out.1.at2
    clear hb9 hck HCK
    go_wp2_with fail
    refine ((HK.out.1.below HC9.out.2).of).mono ?_
    rintro e w10 ⟨A10, n10, c10, U10, q10, d10, b10, vs10, rfl, hO10⟩
    have HC10 := Lib.hid (HC9.out.next hO10.below)
    have HO10 := Lib.hid hO10
    have HF10 := Lib.hid (And.intro (HF9.out.1.below hO10.below') (HF9.out.2.below hO10.below'))
    have hsl3 : sl ≤ 3 := by have := HP.out.2.2.2.2.2.1; have := HSL.out.2; omega
    have HC2K := Lib.hid (of_check HO10.out (Below.refl _ _) PA k pc (r.1.map pr) SA sl sc (r.2.map (·.map pr)) HF10.out.1 (by rw [List.length_map]; exact HP.out.2.2.1) (by omega) (prices_i64 HP.out.2.1.2.ps) HF10.out.2.pmat (by rw [List.length_map]; exact HSL.out.1.symm) (by omega) (fun x hx => sps_i64 HP.out.1 hx) (fun x hx => by
      obtain ⟨y, hy, rfl⟩ := List.mem_map.1 hx
      rw [List.length_map, HP.out.2.1.2.lr y hy, ← HP.out.2.2.2.1]; omega))
    clear hO10 m1 m2
    go_wp2_with fail
    refine HC2K.out.mono ?_
    rintro e w11 ⟨hb11, rfl⟩
    have HC11 := Lib.hid (HC10.out.next hb11)
    have HF11 := Lib.hid (HF10.out.1.below hb11)
    rw [if_pos HP.out.2.1.1, chk_sol HP.out.1]
    clear hb11 HC2K
    have hnB := HK.out.1.mkt.hB
    have hpk : ck = true → ps = r.1.map pr := fun h => by
      have h1 := chk_only HP.out.1 (HCB.out.symm.trans h)
      have h2 : (ps.take 6).length ≤ 3 := by rw [h1, List.length_map, HP.out.2.2.1]; omega
      rw [← h1, take_of_le h2]
    have HPK := Lib.hid hpk
    clear hpk
    go_upto_region 7 with fail
    go_cut [88] (fun bv wx => bv = .bool false ∧ Below w11.heap.size w11 wx)
    case first =>
      cases ck with
      | false =>
        go_wp2_with fail
        go_meet
        case rel => exact ⟨rfl, Below.refl _ _⟩
      | true =>
        have e1 := HPK.out rfl
        have hlk : lp = k := by rw [HK.out.2.2.2.1, e1, List.length_map]; exact HP.out.2.2.1
        have HEQ := Lib.hid (equalF_any PA P k lp pc cp r.1 r.1 w11 HP.out.2.2.1 (by rw [hlk]; exact HP.out.2.2.1) (by omega) HF11.out (by
          unfold Go.Proofs.Ytnljnjnmhbkdoaa.Fracs
          rw [← e1]
          exact HK.out.2.1.below HC11.out.2))
        clear e1 hlk
        go_wp2_with fail
        refine HEQ.out.mono ?_
        rintro e w12 ⟨rfl, m12, rfl⟩
        rw [show ∀ l : List Rat, eqB l l = true from fun l => decide_eq_true rfl]
        clear HEQ
        go_wp2_with fail
        go_meet
        case rel => exact ⟨rfl, below_drewN (Below.refl _ _) m12⟩
    obtain ⟨w12, rfl⟩ : ∃ w12 : World, w12 = wc := ⟨_, rfl⟩
    obtain ⟨rfl, hb12⟩ := hcut
    have HC12 := Lib.hid (HC11.out.next hb12)
    have HF12 := Lib.hid (HF11.out.below hb12)
    clear hb12
    go_wp2_with fail
    refine (l4whole_use 0 _).mono ?_
    rintro e w13 ⟨rfl, hb13⟩
    have HC13 := Lib.hid (HC12.out.next hb13)
    have HF13 := Lib.hid (HF12.out.below hb13)
    clear hb13
    go_wp2_with fail
    go_loopw [92] (fun iv wx => ∃ j : Nat, j ≤ k ∧ iv = .int .i64 j ∧ Blk wx w13.heap.size 37 #[.int .i64 (sumF (priQ r.1) j).num, .int .i64 ((sumF (priQ r.1) j).den : Int)] ∧ Below w13.heap.size w13 wx) (fun iv _ => k - (intOf iv).toNat)
    case atStart =>
      exact ⟨0, Nat.zero_le _, rfl, by show Blk _ _ _ #[.int .i64 0, .int .i64 1]; exact Blk.new _ _ _ rfl, (Below.refl _ _).alloc (Nat.le_refl _) _⟩
    case round =>
      obtain ⟨j, hj, rfl, hBk, hbl⟩ := hrel
      obtain ⟨wo, rfl⟩ : ∃ wo : World, wo = wr := ⟨_, rfl⟩
      by_cases hjk : j < k
      · have hjG : j < goodsN V := by rw [← HP.out.2.2.2.1]; exact hjk
        have hps := pri_sm HP.out.2.1.2 hjG
        have hgp : r.1[j]? = some (priQ r.1 j) := by
          unfold priQ
          rw [List.getD_eq_getElem?_getD, List.getElem?_eq_getElem (by rw [HP.out.2.2.1]; exact hjk)]; rfl
        obtain ⟨aP, hPA, _, hcP⟩ := (HF13.out.below hbl).some_ (by rw [HP.out.2.2.1]; omega)
        subst hPA
        obtain ⟨v1, v2⟩ := hcP j _ hgp
        have hlv := sumF_lv (f := priQ r.1) j (by omega) fun i hi => by
          have h := pri_sm HP.out.2.1.2 (show i < goodsN V by omega)
          exact ⟨by have := h.1; omega, by have := h.2.1; omega, by have := h.2.2; omega⟩
        have hspb : SpB (priQ r.1 j) := ⟨by have := hps.1; omega, by have := hps.2.1; omega, by have := hps.2.2; omega⟩
        have hnx : sumF (priQ r.1) (j + 1) = sumF (priQ r.1) j + priQ r.1 j := rfl
        have hadd := lv_add (by omega) hlv hspb
        generalize sumF (priQ r.1) j = s at *
        generalize priQ r.1 j = q at *
        have hbz : Below wo.heap.size wo (wo.alloc (.cells #[.int .i64 q.num, .int .i64 (q.den : Int)] 37)) := (Below.refl _ _).alloc (Nat.le_refl _) _
        have hBz := hBk.below hbz hBk.lt
        obtain ⟨y0, y1, f0, f1⟩ := hBz.at2
        have HADD : Hid (∀ w', Calls Try.prog 31 #[.agg #[.int .i64 s.num, .int .i64 (s.den : Int)], .agg #[.int .i64 q.num, .int .i64 (q.den : Int)]] w' fun e w'' => e = .returned (.agg #[.int .i64 (s + q).num, .int .i64 ((s + q).den : Int)]) ∧ Below w'.heap.size w' w'') := Lib.hid fun w' => radd_raw s q w' hadd.2.1.1 hadd.2.1.2 hadd.2.2.1.1 hadd.2.2.1.2 hadd.2.2.2.1
        have hqd := den_pos q
        obtain ⟨q1, q2, q3⟩ := hps
        have n1 : ¬ (q.den : Int) < 1 := by omega
        have n2 : ¬ (1048576 : Int) < (q.den : Int) := by omega
        have n3 : ¬ q.num < 1 := by omega
        have n4 : ¬ (1048576 : Int) < q.num := by omega
        have l3 : (j : Int) < (k : Int) := by omega
        have HQ := Lib.hid (And.intro hnx (And.intro hBz (And.intro (hbl.trans (hbz.mono hbl.size)) hBz.lt)))
        clear hgp hcP hlv hspb hnx hadd hbz hBz hBk hbl q1 q2 q3 hqd
        go_wp2_with fail
        refine (HADD.out _).mono ?_
        rintro e w15 ⟨rfl, hb15⟩
        have hB15 := HQ.out.2.1.below hb15 HQ.out.2.2.2
        have hbl15 := HQ.out.2.2.1.trans (hb15.mono HQ.out.2.2.1.size)
        have H15 := Lib.hid (And.intro ((hB15.set_ 0 (.int .i64 (s + q).num)).set_ 1 (.int .i64 ((s + q).den : Int))) ((hbl15.setCell (p := ⟨w13.heap.size, 0, none⟩) (Nat.le_refl _) (.int .i64 (s + q).num)).setCell (p := ⟨w13.heap.size, 1, none⟩) (Nat.le_refl _) (.int .i64 ((s + q).den : Int))))
        clear y0 y1 f0 f1 v1 v2
        obtain ⟨y0, y1, f0, f1⟩ := hB15.at2
        clear hB15 hbl15 hb15
        go_wp2_with fail
        go_roundw
        case rel => exact ⟨j + 1, by omega, by go_num, by rw [HQ.out.1]; exact H15.out.1, H15.out.2⟩
        case measure => simp [intOf]; omega
      · obtain rfl : j = k := by omega
        have hsum := sum_prices HP.out.1
        rw [← HP.out.2.2.2.1, hnB] at hsum
        rw [hsum, Rat.num_intCast, Rat.den_intCast] at hBk
        have hbd : ∀ i, i < n → 0 ≤ B.getD i 0 ∧ B.getD i 0 ≤ 20 := fun i hi => by
          have := HP.out.2.2.2.2.2.2.1 (B.getD i 0) (by
            rw [List.getD_eq_getElem?_getD, List.getElem?_eq_getElem (by omega)]
            exact List.getElem_mem _)
          omega
        have hgB : ∀ i, i < n → B[i]? = some (B.getD i 0) := fun i hi => by
          rw [List.getD_eq_getElem?_getD, List.getElem?_eq_getElem (by omega)]; rfl
        have hn13 : 1 ≤ n ∧ n ≤ 3 := by have := HP.out.2.2.2.2; omega
        have HC14 := Lib.hid (HC13.out.next hbl)
        obtain ⟨aB, hA, hAl, hcB⟩ := (HK.out.1.below HC14.out.2).mkt.budgets.some_ (by omega)
        subst hA
        have HB := Lib.hid (And.intro hcB (And.intro hbd hgB))
        have HBK := Lib.hid hBk
        obtain ⟨m1, m2, _, _⟩ := HC14.out.1.at2
        clear hsum hBk hbl hbd hgB hAl hcB
        go_wp2_with fail
        clear m1 m2
        go_loopw [16, 121] (fun av iv wx => ∃ i : Nat, i ≤ n ∧ iv = .int .i64 i ∧ av = .int .i64 (sumZ (fun i => B.getD i 0) i) ∧ Below wo.heap.size wo wx) (fun _ iv _ => n - (intOf iv).toNat)
        case atStart => exact ⟨0, Nat.zero_le _, rfl, rfl, Below.refl _ _⟩
        case round =>
          obtain ⟨i, hi, rfl, rfl, hbl⟩ := hrel
          have HR := Lib.hid hbl
          clear hbl
          by_cases hin : i < n
          · have hx := HB.out.1 i _ (HB.out.2.2 i hin)
            have c1 := (HR.out.cell (lt_of_cell hx)).trans hx
            have hs := sumZ_bd (f := fun i => B.getD i 0) (m := 20) (n := i) (fun j hj => HB.out.2.1 j (by omega))
            have hb := HB.out.2.1 i hin
            have hnx : sumZ (fun i => B.getD i 0) (i + 1) = sumZ (fun i => B.getD i 0) i + B.getD i 0 := rfl
            have HN := Lib.hid hnx
            obtain ⟨s, hse⟩ : ∃ s, s = sumZ (fun i => B.getD i 0) i := ⟨_, rfl⟩
            obtain ⟨b, hbe⟩ : ∃ b, b = B.getD i 0 := ⟨_, rfl⟩
            rw [← hse] at hs HN ⊢
            rw [← hbe] at hb c1 HN
            have hw : wrap64 (s + b) = s + b := w64 (by omega)
            clear hnx hx hse hbe
            go_wp2_with fail
            go_roundw
            case rel => exact ⟨i + 1, by omega, by go_num, by rw [HN.out], HR.out⟩
            case measure => simp [intOf]; omega
          · obtain rfl : n = i := by omega
            have hBw := HBK.out.below HR.out HBK.out.lt
            obtain ⟨y0, y1, _, _⟩ := hBw.at2
            generalize sumZ (fun i => B.getD i 0) n = all at *
            have d1 : ∀ s : Desc wr, s.val.cell? ⟨w13.heap.size, 0, none⟩ = some (.int .i64 all) := fun s => s.cell y0
            have d2 : ∀ s : Desc wr, s.val.cell? ⟨w13.heap.size, 1, none⟩ = some (.int .i64 1) := fun s => s.cell y1
            have HWH : Hid (∀ sd : Desc wr, Calls Try.prog 20 #[.int .i64 all] sd.val fun e w'' => e = .returned (.agg #[.int .i64 all, .int .i64 1]) ∧ ∃ s' : Desc wr, w'' = s'.val) := Lib.hid fun sd => Calls.desc_of (l4whole_use all sd.val)
            have HAW : Hid (∀ sd : Desc wr, Calls Try.prog 17 #[] sd.val fun e w'' => e = .returned (.bool true) ∧ ∃ s' : Desc wr, w'' = s'.val) := Lib.hid fun sd => Calls.desc_of (l4awake_any sd.val)
            have hws := HR.out.size
            clear y0 y1 hBw
            go_upto_region 22 with fail
            refine wp_region_desc (by kernel_rfl) (by kernel_rfl) ?_
            repeat (go_big_quiet_step (first | (go_at_call 20; exact HWH.out _) | (go_at_call 17; exact HAW.out _)))
            refine wpQuiet_nil ?_
            rintro _ ⟨sd, rfl⟩
            have HBE := Lib.hid (HC14.out.2.trans ((HR.out.trans (sd.below.mono hws)).mono HC14.out.2.size))
            clear d1 d2
            go_wp2_with fail
            go_ret
            exact ⟨rfl, HBE.out⟩

/- Contract: Sums of the reference of the market. -/

/-- A number that is not below 0, of 21 bits. -/
def Q20 (q : Rat) : Prop := 0 ≤ q.num ∧ q.num ≤ 1048576 ∧ (q.den : Int) ≤ 1048576
theorem q20_zero : Q20 0 := ⟨by decide, by decide, by decide⟩
/-- What Sums says of at most three. -/
def sums3 (qs : List Rat) (t : Rat) : Bool := decide (qs.getD 0 0 + qs.getD 1 0 = t - qs.getD 2 0)
theorem sums3_iff {f : Nat → Rat} {k : Nat} (hk : 1 ≤ k ∧ k ≤ 3) {t : Rat} {qs : List Rat} (hq : qs = (List.range k).map f) : sums3 qs t = true ↔ sumQ f k = t := by
  subst hq
  have h1 : k = 1 ∨ k = 2 ∨ k = 3 := by omega
  unfold sums3
  rw [decide_eq_true_iff]
  rcases h1 with rfl | rfl | rfl
  · show f 0 + 0 = t - 0 ↔ 0 + f 0 = t
    constructor <;> intro h <;> grind
  · show f 0 + f 1 = t - 0 ↔ 0 + f 0 + f 1 = t
    constructor <;> intro h <;> grind
  · show f 0 + f 1 = t - f 2 ↔ 0 + f 0 + f 1 + f 2 = t
    constructor <;> intro h <;> grind
theorem size_frac : (Try.prog.info? 37).map (·.size) = some 2 := by kernel_rfl
theorem three_cells {qs : List Rat} {n : Nat} (hl : qs.length = n) (h1 : 1 ≤ n) (h3 : n ≤ 3) : (splice (pcells [(0, 1), (0, 1), (0, 1)]) 0 (pcells (qs.map pr))).toArray = #[.int .i64 (qs.getD 0 0).num, .int .i64 ((qs.getD 0 0).den : Int), .int .i64 (qs.getD 1 0).num, .int .i64 ((qs.getD 1 0).den : Int), .int .i64 (qs.getD 2 0).num, .int .i64 ((qs.getD 2 0).den : Int)] := by
  match qs, hl with
  | [], hl => simp at hl; omega
  | [a], _ => rfl
  | [a, b], _ => rfl
  | [a, b, c], _ => rfl
  | a :: b :: c :: d :: l, hl => simp at hl; omega
theorem q20_get {qs : List Rat} (h : ∀ q ∈ qs, Q20 q) (i : Nat) : Q20 (qs.getD i 0) := by
  rw [List.getD_eq_getElem?_getD]
  cases hi : qs[i]? with
  | none => exact q20_zero
  | some q => exact h q (List.mem_of_getElem? hi)
theorem q20_mul {p q : Rat} (hp : Q20 p) (hq : Q20 q) : 0 ≤ p.num * q.den ∧ p.num * q.den ≤ 1099511627776 ∧ (p.den : Int) * q.den ≤ 1099511627776 := by
  obtain ⟨p1, p2, p3⟩ := hp
  obtain ⟨q1, q2, q3⟩ := hq
  have hpd := den_pos p
  have hqd := den_pos q
  have a0 : 0 ≤ p.num * q.den := Int.mul_nonneg p1 (by omega)
  have a1 : p.num * (q.den : Int) ≤ 1048576 * 1048576 := Int.mul_le_mul p2 q3 (by omega) (by omega)
  have a2 : (p.den : Int) * q.den ≤ 1048576 * 1048576 := Int.mul_le_mul p3 q3 (by omega) (by omega)
  omega
set_option maxRecDepth 100000 in
set_option maxHeartbeats 1600000 in
theorem r4sums_any (A : Option Addr) (n cap : Nat) (qs : List Rat) (t : Rat) (w : World) (hl : qs.length = n) (hn : 1 ≤ n ∧ n ≤ 3) (h : Fracs w A qs) (hq : ∀ q ∈ qs, Q20 q) (ht : Q20 t) :
    Calls Try.prog 46 #[.slice A n cap, .agg #[.int .i64 t.num, .int .i64 (t.den : Int)]] w fun e w' => e = .returned (.bool (sums3 qs t)) ∧ Below w.heap.size w w' := by
  obtain ⟨ad, rfl, _, _⟩ := h.some_ (by omega)
  obtain ⟨w1, hw1⟩ : ∃ w1, w1 = w.alloc (.cells #[.int .i64 t.num, .int .i64 (t.den : Int)] 37) := ⟨_, rfl⟩
  obtain ⟨w2, hw2⟩ : ∃ w2, w2 = w1.alloc (.cells #[.int .i64 0, .int .i64 1, .int .i64 0, .int .i64 1, .int .i64 0, .int .i64 1] 92) := ⟨_, rfl⟩
  have hB1 : Blk w2 w.heap.size 37 #[.int .i64 t.num, .int .i64 (t.den : Int)] := by rw [hw2, hw1]; exact (Blk.new _ _ _ rfl).alloc _
  have hB2 : Blk w2 (w.heap.size + 1) 92 (pcells [(0, 1), (0, 1), (0, 1)]).toArray := by rw [hw2, hw1]; exact Blk.new _ _ _ (by simp)
  have hb2 : Below w.heap.size w w2 := by rw [hw2, hw1]; exact ((Below.refl _ _).alloc (Nat.le_refl _) _).alloc (by simp) _
  have hsrc : ∀ j v, (pcells (qs.map pr))[j]? = some v → w2.cell? (ad.add j) = some v := At.some2 (h.below hb2)
  have hlen : (pcells (qs.map pr)).length = n * 2 := by rw [pcells_length, List.length_map, hl]
  have hfit : 0 + (pcells (qs.map pr)).length ≤ (pcells [((0 : Int), (1 : Int)), (0, 1), (0, 1)]).length := by rw [hlen, pcells_length]; simp; omega
  have hmin : n = Nat.min n 3 := (Nat.min_eq_left hn.2).symm
  have H := Lib.hid (And.intro hB1 (And.intro hB2 (And.intro hb2 (And.intro hsrc (And.intro hlen (And.intro hfit hmin))))))
  have HO := Lib.hid (pcells_one (qs.map pr))
  have HQ := Lib.hid (And.intro hl (And.intro hq ht))
  have hn3 : n ≤ 3 := hn.2
  clear hB1 hB2 hb2 hsrc hlen hfit hmin hl hq ht h
  go_enter Try.func46, Try.ntmps46
  go_upto_region 2 with fail
  rw [← hw1, ← hw2]
  clear hw1 hw2
  go_wp2_with (refine wpList_copy2 (o := ⟨some 12, _, _, _, _, _⟩) rfl (.tmp 10) (.tmp 11) _ _ rfl 37 Try.underlying26 size_frac (w.heap.size + 1) 0 3 3 ad n cap n rfl rfl (pcells [(0, 1), (0, 1), (0, 1)]) 92 H.out.2.1 (pcells (qs.map pr)) H.out.2.2.2.2.2.2 H.out.2.2.2.2.1 H.out.2.2.2.1 H.out.2.2.2.2.2.1 HO.out (w.heap.size + 1) w2 (Below.refl _ _) (Nat.le_refl _) ?_)
  intro w3 hs3 hb3
  have hB3 : Blk w3 (w.heap.size + 1) 92 #[.int .i64 (qs.getD 0 0).num, .int .i64 ((qs.getD 0 0).den : Int), .int .i64 (qs.getD 1 0).num, .int .i64 ((qs.getD 1 0).den : Int), .int .i64 (qs.getD 2 0).num, .int .i64 ((qs.getD 2 0).den : Int)] := by
    have h1 := hs3.out
    rw [three_cells HQ.out.1 hn.1 hn.2] at h1
    exact h1
  have hB4 := H.out.1.below hb3 (by omega)
  have hb4 := H.out.2.2.1.trans (hb3.mono (by omega))
  have q0 := q20_get HQ.out.2.1 0
  have q1 := q20_get HQ.out.2.1 1
  have q2 := q20_get HQ.out.2.1 2
  have ht := HQ.out.2.2
  have hval : sums3 qs t = decide (qs.getD 0 0 + qs.getD 1 0 = t - qs.getD 2 0) := rfl
  generalize qs.getD 0 0 = a at *
  generalize qs.getD 1 0 = b at *
  generalize qs.getD 2 0 = c at *
  have m1 := q20_mul q0 q1
  have m2 := q20_mul q1 q0
  have m3 := q20_mul ht q2
  have m4 := q20_mul q2 ht
  have hadd : ∀ w', Calls Try.prog 31 #[.agg #[.int .i64 a.num, .int .i64 (a.den : Int)], .agg #[.int .i64 b.num, .int .i64 (b.den : Int)]] w' fun e w'' => e = .returned (.agg #[.int .i64 (a + b).num, .int .i64 ((a + b).den : Int)]) ∧ Below w'.heap.size w' w'' := fun w' => radd_raw a b w' (by omega) (by omega) (by omega) (by omega) (by omega)
  have hsub : ∀ w', Calls Try.prog 63 #[.agg #[.int .i64 t.num, .int .i64 (t.den : Int)], .agg #[.int .i64 c.num, .int .i64 (c.den : Int)]] w' fun e w'' => e = .returned (.agg #[.int .i64 (t - c).num, .int .i64 ((t - c).den : Int)]) ∧ Below w'.heap.size w' w'' := fun w' => rsub_raw t c w' (by omega) (by omega) (by omega) (by omega) (by omega)
  have hqe := run_eq_frac7 (a + b) (t - c)
  generalize a + b = x at *
  generalize t - c = y at *
  have d1 : ∀ s : Desc w3, s.val.cell? ⟨w.heap.size, 0, none⟩ = some (.int .i64 t.num) := fun s => s.cell (hB4.cell 0)
  have d2 : ∀ s : Desc w3, s.val.cell? ⟨w.heap.size, 1, none⟩ = some (.int .i64 (t.den : Int)) := fun s => s.cell (hB4.cell 1)
  have d3 : ∀ s : Desc w3, s.val.cell? ⟨w.heap.size + 1, 0, none⟩ = some (.int .i64 a.num) := fun s => s.cell (hB3.cell 0)
  have d4 : ∀ s : Desc w3, s.val.cell? ⟨w.heap.size + 1, 1, none⟩ = some (.int .i64 (a.den : Int)) := fun s => s.cell (hB3.cell 1)
  have d5 : ∀ s : Desc w3, s.val.cell? ⟨w.heap.size + 1, 2, none⟩ = some (.int .i64 b.num) := fun s => s.cell (hB3.cell 2)
  have d6 : ∀ s : Desc w3, s.val.cell? ⟨w.heap.size + 1, 3, none⟩ = some (.int .i64 (b.den : Int)) := fun s => s.cell (hB3.cell 3)
  have d7 : ∀ s : Desc w3, s.val.cell? ⟨w.heap.size + 1, 4, none⟩ = some (.int .i64 c.num) := fun s => s.cell (hB3.cell 4)
  have d8 : ∀ s : Desc w3, s.val.cell? ⟨w.heap.size + 1, 5, none⟩ = some (.int .i64 (c.den : Int)) := fun s => s.cell (hB3.cell 5)
  have HADD : Hid (∀ sd : Desc w3, Calls Try.prog 31 #[.agg #[.int .i64 a.num, .int .i64 (a.den : Int)], .agg #[.int .i64 b.num, .int .i64 (b.den : Int)]] sd.val fun e w'' => e = .returned (.agg #[.int .i64 x.num, .int .i64 (x.den : Int)]) ∧ ∃ s' : Desc w3, w'' = s'.val) := Lib.hid fun sd => Calls.desc_of (hadd sd.val)
  have HSUB : Hid (∀ sd : Desc w3, Calls Try.prog 63 #[.agg #[.int .i64 t.num, .int .i64 (t.den : Int)], .agg #[.int .i64 c.num, .int .i64 (c.den : Int)]] sd.val fun e w'' => e = .returned (.agg #[.int .i64 y.num, .int .i64 (y.den : Int)]) ∧ ∃ s' : Desc w3, w'' = s'.val) := Lib.hid fun sd => Calls.desc_of (hsub sd.val)
  have HB := Lib.hid hb4
  have HV := Lib.hid hval
  clear hs3 hb3 hB3 hB4 hb4 q0 q1 q2 ht hval m1 m2 m3 m4 hadd hsub
  go_wp2_with fail
  refine wp_region_desc (by kernel_rfl) (by kernel_rfl) ?_
  repeat (go_big_quiet_step (first | (go_at_call 31; exact HADD.out _) | (go_at_call 63; exact HSUB.out _)))
  refine wpQuiet_nil ?_
  rintro _ ⟨sd, rfl⟩
  have HBE := Lib.hid (HB.out.trans (sd.below.mono HB.out.size))
  clear d1 d2 d3 d4 d5 d6 d7 d8
  go_wp2_with fail
  go_ret
  exact ⟨ret_bool HV.out.symm, HBE.out⟩

/- Contract: Balance of the reference of the market. -/

def rowB (B : List Int) (V : List (List Int)) (P : List Rat) (L : List (List Rat)) (k i : Nat) : Bool := sums3 (rowQ L i) ((B.getD i 0 : Int) : Rat) && (List.range k).all fun g => (!decide (0 < (spd L i g).num)) || (wantS (rowV V i) P).testBit g
def colL4 (L : List (List Rat)) (n g : Nat) : List Rat := (List.range n).map fun i => spd L i g
def colB (P : List Rat) (L : List (List Rat)) (n g : Nat) : Bool := sums3 (colL4 L n g) (priQ P g)
def refBal (B : List Int) (V : List (List Int)) (P : List Rat) (L : List (List Rat)) (n k : Nat) : Bool := (List.range n).all (rowB B V P L k) && (List.range k).all (colB P L n)
theorem rowQ_map {L : List (List Rat)} {k i : Nat} (h : (rowQ L i).length = k) : rowQ L i = (List.range k).map (spd L i) := by
  apply List.ext_getElem?
  intro g
  by_cases hg : g < k
  · rw [List.getElem?_map, List.getElem?_range hg]
    show _ = some ((rowQ L i).getD g 0)
    rw [List.getD_eq_getElem?_getD, List.getElem?_eq_getElem (by omega)]; rfl
  · rw [List.getElem?_eq_none (by omega), List.getElem?_eq_none (by simp; omega)]
theorem refBal_eq {B : List Int} {V : List (List Int)} {P : List Rat} {L : List (List Rat)} {n k : Nat} (hB : B.length = n) (hn : 1 ≤ n ∧ n ≤ 3) (hk : 1 ≤ k ∧ k ≤ 3) (hl : P.length = k) (hr : ∀ i, i < n → (rowQ L i).length = k) (hnn : ∀ i g, i < n → g < k → 0 ≤ spd L i g) : refBal B V P L n k = balB B V P L := by
  have hP : P = (List.range k).map (priQ P) := by
    apply List.ext_getElem?
    intro g
    by_cases hg : g < k
    · rw [List.getElem?_map, List.getElem?_range hg]
      show _ = some (P.getD g 0)
      rw [List.getD_eq_getElem?_getD, List.getElem?_eq_getElem (by omega)]; rfl
    · rw [List.getElem?_eq_none (by omega), List.getElem?_eq_none (by simp; omega)]
  rw [Bool.eq_iff_iff]
  unfold refBal balB
  rw [Bool.and_eq_true, Bool.and_eq_true, List.all_eq_true, List.all_eq_true, List.all_eq_true, hB, hl]
  have h1 : ∀ i, i < n → (rowB B V P L k i = true ↔ lineOk B V P L i = true) := fun i hi => by
    unfold rowB lineOk
    rw [Bool.and_eq_true, Bool.and_eq_true, sums3_iff hk (rowQ_map (hr i hi)), hl, decide_eq_true_iff, sumF_Q, List.all_eq_true, List.all_eq_true, and_comm]
    refine and_congr_left' ?_
    refine forall_congr' fun g => forall_congr' fun hg => ?_
    have h0 := hnn i g hi (List.mem_range.1 hg)
    unfold cellOk
    rw [decide_eq_true h0, Bool.true_and, Bool.or_eq_true, Bool.or_eq_true, Bool.not_eq_true', decide_eq_false_iff_not, decide_eq_true_iff]
    have h3 : ¬ 0 < (spd L i g).num ↔ spd L i g = 0 := by
      have h4 := Rat.num_nonneg.2 h0
      constructor
      · intro h5; exact Rat.num_eq_zero.1 (by omega)
      · intro h5; rw [h5]; decide
    rw [h3]
  have h2 : (∀ g ∈ List.range k, colB P L n g = true) ↔ decide ((List.range k).map (fun g => sumF (fun i => spd L i g) n) = P) = true := by
    rw [decide_eq_true_iff]
    constructor
    · intro h
      conv => rhs; rw [hP]
      refine List.map_congr_left fun g hg => ?_
      rw [sumF_Q]
      have := h g hg
      unfold colB at this
      exact (sums3_iff hn (f := fun i => spd L i g) rfl).1 this
    · intro h g hg
      unfold colB
      refine (sums3_iff hn (f := fun i => spd L i g) rfl).2 ?_
      rw [← sumF_Q]
      have := congrArg (fun l => l[g]?) (h.trans hP)
      simp only [List.getElem?_map, List.getElem?_range (List.mem_range.1 hg), Option.map_some] at this
      injection this with this
  rw [h2]
  refine and_congr_left' ?_
  exact forall_congr' fun i => forall_congr' fun hi => h1 i (List.mem_range.1 hi)
theorem q20_pr {q : Rat} (h : PrOk q) : Q20 q := by obtain ⟨a, b, c⟩ := h; exact ⟨by omega, b, c⟩
theorem q20_int {b : Int} (h : 0 ≤ b ∧ b ≤ 1048576) : Q20 ((b : Int) : Rat) := by
  refine ⟨by rw [Rat.num_intCast]; exact h.1, by rw [Rat.num_intCast]; exact h.2, by rw [Rat.den_intCast]; decide⟩
set_option maxRecDepth 100000 in
set_option maxHeartbeats 4000000 in
theorem r4balance_any (A : Option Addr) (n c : Nat) (U : Option Addr) (d k cp cs : Nat) (Pa Sa : Option Addr) (B : List Int) (V : List (List Int)) (P : List Rat) (L : List (List Rat)) (w : World) (h : MkIn w A n U k B V) (hP : Fracs w Pa P) (hl : P.length = k) (hok : ∀ q ∈ P, PrOk q)
    (hS : FMat w Sa L) (hL : L.length = n) (hr : ∀ r ∈ L, r.length = k) (hq : ∀ r ∈ L, ∀ q ∈ r, Q20 q) :
    Calls Try.prog 26 #[.agg #[.slice A n c, .slice U n d], .slice Pa k cp, .slice Sa n cs] w fun e w' => e = .returned (.bool (balB B V P L)) ∧ Below w.heap.size w w' := by
  obtain ⟨w1, hw1⟩ : ∃ w1, w1 = w.alloc (.cells #[.slice A n c, .slice U n d] 25) := ⟨_, rfl⟩
  have hb1 : Below w.heap.size w w1 := by rw [hw1]; exact (Below.refl _ _).alloc (Nat.le_refl _) _
  have hM1 : Blk w1 w.heap.size 25 #[.slice A n c, .slice U n d] := by rw [hw1]; exact Blk.new _ _ _ rfl
  obtain ⟨m1, m2, _, _⟩ := hM1.at2
  have hn := h.hn
  have hk := h.hk
  have hrq : ∀ i, i < n → (rowQ L i).length = k := fun i hi => hr _ (List.mem_of_getElem? (rowQ_some (by omega)))
  have hqs : ∀ i g, Q20 (spd L i g) := fun i g => by
    unfold spd
    rcases Nat.lt_or_ge i n with hi | hi
    · exact q20_get (hq _ (List.mem_of_getElem? (rowQ_some (by omega)))) g
    · unfold rowQ
      rw [List.getD_eq_getElem?_getD (l := L), List.getElem?_eq_none (by omega)]
      exact q20_zero
  have hbal := refBal_eq (V := V) h.mkt.hB hn hk hl hrq (fun i g _ _ => Rat.num_nonneg.1 (hqs i g).1)
  have hrowq : ∀ i, i < n → ∀ q ∈ rowQ L i, Q20 q := fun i hi => hq _ (List.mem_of_getElem? (rowQ_some (by omega)))
  have HW := Lib.hid (r4want_any A n c U d k cp Pa B V P w1 (h.below hb1) (hP.below hb1) hl hok)
  have hrs : ∀ i, i < n → L[i]? = some (rowQ L i) := fun i hi => rowQ_some (by omega)
  have H := Lib.hid (And.intro h (And.intro hP (And.intro hl (And.intro hok (And.intro hS (And.intro hL (And.intro hrq (And.intro hqs (And.intro hrowq (And.intro hrs hbal))))))))))
  have H1 := Lib.hid (And.intro hM1 hb1)
  clear h hP hl hok hS hL hr hq hrq hqs hbal hM1 hb1 hrowq hrs
  go_enter Try.func26, Try.ntmps26
  go_wp2_with fail
  rw [← hw1]
  clear hw1
  refine HW.out.mono ?_
  rintro e w2 ⟨Wa, wc, rfl, hat, hb2⟩
  have H2 := Lib.hid (And.intro (H1.out.1.below hb2 H1.out.1.lt) (And.intro (H1.out.2.trans (hb2.mono H1.out.2.size)) hat))
  have hwl2 := (H1.out.1.below hb2 H1.out.1.lt).lt
  clear hb2 hat HW m1 m2
  have hNOr : ∀ i, i < n → rowB B V P L k i = false → Hid (balB B V P L = false) := fun i hi h => Lib.hid (by
    rw [← H.out.2.2.2.2.2.2.2.2.2.2]
    unfold refBal
    rw [Bool.and_eq_false_iff]
    left
    rw [List.all_eq_false]
    exact ⟨i, List.mem_range.2 hi, by simp [h]⟩)
  have hNOc : ∀ g, g < k → colB P L n g = false → Hid (balB B V P L = false) := fun g hg h => Lib.hid (by
    rw [← H.out.2.2.2.2.2.2.2.2.2.2]
    unfold refBal
    rw [Bool.and_eq_false_iff]
    right
    rw [List.all_eq_false]
    exact ⟨g, List.mem_range.2 hg, by simp [h]⟩)
  have HNO := Lib.hid (And.intro hNOr hNOc)
  clear hNOr hNOc
  go_wp2_with fail
  go_loopw [21] (fun iv wx => ∃ i : Nat, i ≤ n ∧ iv = .int .i64 i ∧ (∀ j, j < i → rowB B V P L k j = true) ∧ Below w2.heap.size w2 wx) (fun iv _ => n - (intOf iv).toNat)
  case atStart => exact ⟨0, Nat.zero_le _, rfl, fun j hj => by omega, Below.refl _ _⟩
  case round =>
    obtain ⟨i, hi, rfl, hall, hbl⟩ := hrel
    obtain ⟨wo, rfl⟩ : ∃ wo : World, wo = wr := ⟨_, rfl⟩
    have hbw := H2.out.2.1.trans (hbl.mono H2.out.2.1.size)
    have HR := Lib.hid (And.intro hall (And.intro hbl hbw))
    clear hall hbl hbw
    by_cases hin : i < n
    · obtain ⟨m1, m2, _, _⟩ := (H2.out.1.below HR.out.2.1 hwl2).at2
      obtain ⟨aS, hAS, _, hcS⟩ := (H.out.2.2.2.2.1.below HR.out.2.2).some_ (by rw [H.out.2.2.2.2.2.1]; omega)
      subst hAS
      obtain ⟨A', c', g1, hF⟩ := hcS i _ (H.out.2.2.2.2.2.2.2.2.2.1 i hin)
      rw [H.out.2.2.2.2.2.2.1 i hin] at g1
      obtain ⟨aB, hAB, _, hcB⟩ := (H.out.1.mkt.budgets.below HR.out.2.2).some_ (by rw [H.out.1.mkt.hB]; omega)
      subst hAB
      have hxi : B[i]? = some (B.getD i 0) := by
        rw [List.getD_eq_getElem?_getD, List.getElem?_eq_getElem (by rw [H.out.1.mkt.hB]; exact hin)]; rfl
      have hbb := H.out.1.buds (B.getD i 0) (List.mem_of_getElem? hxi)
      have c1 := hcB i _ hxi
      have HF := Lib.hid hF
      have hrow : rowB B V P L k i = (sums3 (rowQ L i) ((B.getD i 0 : Int) : Rat) && (List.range k).all fun g => (!decide (0 < (spd L i g).num)) || (wantS (rowV V i) P).testBit g) := rfl
      have HROW := Lib.hid hrow
      obtain ⟨b, hb⟩ : ∃ b, b = B.getD i 0 := ⟨_, rfl⟩
      rw [← hb] at c1 HROW hbb
      have l1 : (i : Int) < (n : Int) := by omega
      have l2 : (0 : Int) ≤ (i : Int) := by omega
      clear hcS hF hcB hxi hrow hb
      go_wp2_with fail
      refine (rof_use b _ (by omega)).mono ?_
      rintro e w3 ⟨rfl, hb3⟩
      have HB3 := Lib.hid (And.intro (HR.out.2.1.trans (hb3.mono HR.out.2.1.size)) (And.intro hb3 (HF.out.below hb3)))
      clear hb3
      have hsm := r4sums_any A' k c' (rowQ L i) ((b : Int) : Rat) w3 (H.out.2.2.2.2.2.2.1 i hin) hk HB3.out.2.2 (H.out.2.2.2.2.2.2.2.2.1 i hin) (q20_int (by omega))
      rw [Rat.num_intCast, Rat.den_intCast] at hsm
      have HSM := Lib.hid hsm
      clear hsm m1 m2
      go_wp2_with fail
      refine HSM.out.mono ?_
      rintro e w4 ⟨rfl, hb4⟩
      have HB4 := Lib.hid (And.intro (HB3.out.1.trans (hb4.mono HB3.out.1.size)) (HB3.out.2.2.below hb4))
      clear hb4 HSM
      cases hs : sums3 (rowQ L i) ((b : Int) : Rat) with
      | false =>
        have HN := HNO.out.1 i hin (by rw [HROW.out, hs, Bool.false_and])
        clear hs
        go_wp2_with fail
        go_ret
        exact ⟨ret_bool HN.out.symm, H2.out.2.1.trans (HB4.out.1.mono H2.out.2.1.size)⟩
      | true =>
        rw [hs, Bool.true_and] at HROW
        clear hs c1
        go_wp2_with fail
        go_loopw [37] (fun gv wx => ∃ g : Nat, g ≤ k ∧ gv = .int .i64 g ∧ (∀ x, x < g → ((!decide (0 < (spd L i x).num)) || (wantS (rowV V i) P).testBit x) = true) ∧ Below w4.heap.size w4 wx) (fun gv _ => k - (intOf gv).toNat)
        case atStart => exact ⟨0, Nat.zero_le _, rfl, fun j hj => by omega, Below.refl _ _⟩
        case round =>
          obtain ⟨g, hg, rfl, hall, hbl⟩ := hrel
          obtain ⟨wi, rfl⟩ : ∃ wo : World, wo = wr := ⟨_, rfl⟩
          have HI := Lib.hid (And.intro hall (And.intro hbl (HB4.out.1.trans (hbl.mono HB4.out.1.size))))
          clear hall hbl
          by_cases hgk : g < k
          · obtain ⟨aR, hAR, _, hcR⟩ := (HB4.out.2.below HI.out.2.1).some_ (by rw [H.out.2.2.2.2.2.2.1 i hin]; omega)
            subst hAR
            have hgr : (rowQ L i)[g]? = some (spd L i g) := by
              unfold spd
              rw [List.getD_eq_getElem?_getD, List.getElem?_eq_getElem (by rw [H.out.2.2.2.2.2.2.1 i hin]; exact hgk)]; rfl
            obtain ⟨v1, v2⟩ := hcR g _ hgr
            have hwl : (wantV V P n).length = n := by simp [wantV]
            obtain ⟨aW, hAW, _, hcW⟩ := (At.below H2.out.2.2 HI.out.2.2).some_ (by rw [hwl]; omega)
            subst hAW
            have hgw : (wantV V P n)[i]? = some (.int .i64 ((wantS (rowV V i) P : Nat) : Int)) := by
              unfold wantV
              rw [List.getElem?_map, List.getElem?_range hin]; rfl
            have c3 := hcW i _ hgw
            have hws : wantS (rowV V i) P < 9223372036854775808 := by
              unfold wantS
              have h1 := wTo_lt (rowV V i) P (rowV V i).length
              rw [(rowOk_iff.1 (H.out.1.rows _ (List.mem_of_getElem? (rowV_some (by rw [H.out.1.mkt.hV]; exact hin))))).1] at h1 ⊢
              have h8 : (2 : Nat) ^ k ≤ 8 := by
                have : k = 1 ∨ k = 2 ∨ k = 3 := by omega
                rcases this with rfl | rfl | rfl <;> decide
              omega
            obtain ⟨ws, hwse⟩ : ∃ s, s = wantS (rowV V i) P := ⟨_, rfl⟩
            obtain ⟨q, hqe⟩ : ∃ q, q = spd L i g := ⟨_, rfl⟩
            rw [← hwse] at c3 hws
            rw [← hqe] at v1 v2
            have hbz : Below wi.heap.size wi (wi.alloc (.cells #[.int .i64 q.num, .int .i64 (q.den : Int)] 37)) := (Below.refl _ _).alloc (Nat.le_refl _) _
            have c4 := (hbz.cell (lt_of_cell c3)).trans c3
            have HZ := Lib.hid (And.intro (HI.out.2.1.trans (hbz.mono HI.out.2.1.size)) (And.intro hwse hqe))
            have hbt := and_shr ws g (by omega)
            have l3 : (g : Int) < (k : Int) := by omega
            have l4 : (0 : Int) ≤ (g : Int) := by omega
            clear hcR hgr hcW hgw hwse hqe hbz hwl
            by_cases h0 : 0 < q.num
            · cases htb : ws.testBit g with
              | true =>
                rw [htb] at hbt
                have HT := Lib.hid htb
                have hbt0 : (bits .and .i64 ((ws : Int) / 2 ^ g) 1 == 0) = false := by rw [hbt]; rfl
                have hbt2 : bits .and .i64 ((ws : Int) / 2 ^ g) 1 = 1 := hbt
                clear hbt htb
                go_wp2_with fail
                go_roundw
                case rel => exact ⟨g + 1, by omega, by go_num, fun x hx => by
                  rcases Nat.lt_or_ge x g with h1 | h1
                  · exact HI.out.1 x h1
                  · rw [show x = g by omega, ← HZ.out.2.1, HT.out, Bool.or_true], HZ.out.1⟩
                case measure => simp [intOf]; omega
              | false =>
                rw [htb] at hbt
                have HN := HNO.out.1 i hin (by
                  rw [HROW.out, List.all_eq_false]
                  refine ⟨g, List.mem_range.2 hgk, ?_⟩
                  rw [← HZ.out.2.1, ← HZ.out.2.2, htb, decide_eq_true h0]; decide)
                have hbt0 : (bits .and .i64 ((ws : Int) / 2 ^ g) 1 == 0) = true := by rw [hbt]; rfl
                have hbt2 : bits .and .i64 ((ws : Int) / 2 ^ g) 1 = 0 := hbt
                clear hbt htb
                go_wp2_with fail
                go_ret
                exact ⟨ret_bool HN.out.symm, H2.out.2.1.trans ((HB4.out.1.trans (HZ.out.1.mono HB4.out.1.size)).mono H2.out.2.1.size)⟩
            · clear hbt
              go_wp2_with fail
              go_roundw
              case rel => exact ⟨g + 1, by omega, by go_num, fun x hx => by
                rcases Nat.lt_or_ge x g with h1 | h1
                · exact HI.out.1 x h1
                · rw [show x = g by omega, ← HZ.out.2.2, decide_eq_false h0]; rfl, HZ.out.1⟩
              case measure => simp [intOf]; omega
          · obtain rfl : k = g := by omega
            have HRT : Hid (rowB B V P L k i = true) := Lib.hid (by
              rw [HROW.out, List.all_eq_true]
              exact fun x hx => HI.out.1 x (List.mem_range.1 hx))
            go_wp2_with fail
            go_roundw
            case rel => exact ⟨i + 1, by omega, by go_num, fun x hx => by
              rcases Nat.lt_or_ge x i with h1 | h1
              · exact HR.out.1 x h1
              · rw [show x = i by omega]; exact HRT.out, HI.out.2.2⟩
            case measure => simp [intOf]; omega
    · obtain rfl : n = i := by omega
      go_wp2_with fail
      go_loopw [59] (fun gv wx => ∃ g : Nat, g ≤ k ∧ gv = .int .i64 g ∧ (∀ x, x < g → colB P L n x = true) ∧ Below wo.heap.size wo wx) (fun gv _ => k - (intOf gv).toNat)
      case atStart => exact ⟨0, Nat.zero_le _, rfl, fun j hj => by omega, Below.refl _ _⟩
      case round =>
        obtain ⟨g, hg, rfl, hall, hbl⟩ := hrel
        obtain ⟨wg, rfl⟩ : ∃ wo : World, wo = wr := ⟨_, rfl⟩
        have HG := Lib.hid (And.intro hall (And.intro hbl (HR.out.2.2.trans (hbl.mono HR.out.2.2.size))))
        clear hall hbl
        by_cases hgk : g < k
        · have l3 : (g : Int) < (k : Int) := by omega
          have l4 : (0 : Int) ≤ (g : Int) := by omega
          go_wp2_with fail
          go_loopw [13, 64] (fun ov iv wx => ∃ (i : Nat) (A2 : Option Addr) (c2 : Nat), i ≤ n ∧ iv = .int .i64 i ∧ ov = .slice A2 i c2 ∧ wx.ownsRow wg.heap.size 37 2 (.slice A2 i c2) i (fcells ((List.range i).map fun j => spd L j g)) ∧ Below wg.heap.size wg wx) (fun _ iv _ => n - (intOf iv).toNat)
          case atStart => exact ⟨0, none, 0, Nat.zero_le _, rfl, rfl, World.ownsRow_nil _ _ _ _, Below.refl _ _⟩
          case round =>
            obtain ⟨i, A2, c2, hi, rfl, rfl, hown, hbl⟩ := hrel
            obtain ⟨wi, rfl⟩ : ∃ wo : World, wo = wr := ⟨_, rfl⟩
            have HI := Lib.hid (And.intro hown (And.intro hbl (HG.out.2.2.trans (hbl.mono HG.out.2.2.size))))
            clear hown hbl
            by_cases hin : i < n
            · obtain ⟨aS, hAS, _, hcS⟩ := (H.out.2.2.2.2.1.below HI.out.2.2).some_ (by rw [H.out.2.2.2.2.2.1]; omega)
              subst hAS
              obtain ⟨A', c', g1, hF⟩ := hcS i _ (H.out.2.2.2.2.2.2.2.2.2.1 i hin)
              rw [H.out.2.2.2.2.2.2.1 i hin] at g1
              obtain ⟨aR, rfl, _, hcR⟩ := hF.some_ (by rw [H.out.2.2.2.2.2.2.1 i hin]; omega)
              have hgr : (rowQ L i)[g]? = some (spd L i g) := by
                unfold spd
                rw [List.getD_eq_getElem?_getD, List.getElem?_eq_getElem (by rw [H.out.2.2.2.2.2.2.1 i hin]; exact hgk)]; rfl
              obtain ⟨v1, v2⟩ := hcR g _ hgr
              have hnx : fcells ((List.range (i + 1)).map fun j => spd L j g) = fcells ((List.range i).map fun j => spd L j g) ++ [.int .i64 (spd L i g).num, .int .i64 ((spd L i g).den : Int)] := by
                rw [List.range_succ, List.map_append, List.map_cons, List.map_nil, fcells_snoc]
              have HO := Lib.hid (And.intro HI.out.1 (And.intro HI.out.2.1 hnx))
              have hsz : wg.heap.size ≤ wi.heap.size := HO.out.2.1.size
              have l5 : (i : Int) < (n : Int) := by omega
              clear hcS hF hcR hgr hnx
              generalize hqe : spd L i g = q at *
              clear hqe
              go_wp2_with (at_builtin; refine app1g sty_frac rfl _ _ rfl wg.heap.size A2 i c2 _ #[.int .i64 q.num, .int .i64 (q.den : Int)] rfl (by simp [Value.oneCell']) rfl HO.out.1 _ rfl rfl (by omega) hsz ?_)
              intro A4 k4 w4 hown4 _ hbl4 hk41 hk42
              have HR4 := Lib.hid (And.intro hown4 (HO.out.2.1.trans hbl4))
              clear hown4 hbl4 v1 v2 g1
              go_wp2_with fail
              go_roundw
              case rel => exact ⟨i + 1, A4, k4, by omega, by go_num, rfl, by rw [HO.out.2.2]; exact HR4.out.1, HR4.out.2⟩
              case measure => simp [intOf]; omega
            · obtain rfl : n = i := by omega
              have hFc : Fracs wi A2 (colL4 L n g) := Fracs.of_cells (At.of_own HI.out.1)
              obtain ⟨aP, hAP, _, hcP⟩ := (H.out.2.1.below HI.out.2.2).some_ (by rw [H.out.2.2.1]; omega)
              subst hAP
              have hgp : P[g]? = some (priQ P g) := by
                unfold priQ
                rw [List.getD_eq_getElem?_getD, List.getElem?_eq_getElem (by rw [H.out.2.2.1]; exact hgk)]; rfl
              obtain ⟨v1, v2⟩ := hcP g _ hgp
              have hpo := H.out.2.2.2.1 _ (List.mem_of_getElem? hgp)
              have HSM := Lib.hid (r4sums_any A2 n c2 (colL4 L n g) (priQ P g) wi (by simp [colL4]) hn hFc (fun q hq => by
                obtain ⟨j, _, rfl⟩ := List.mem_map.1 hq
                exact H.out.2.2.2.2.2.2.2.1 j g) (q20_pr hpo))
              clear hFc hcP hgp hpo
              have hcb : colB P L n g = sums3 (colL4 L n g) (priQ P g) := rfl
              have HCB := Lib.hid hcb
              clear hcb
              go_wp2_with fail
              refine HSM.out.mono ?_
              rintro e w4 ⟨rfl, hb4⟩
              have HB4 := Lib.hid (HI.out.2.1.trans (hb4.mono HI.out.2.1.size))
              clear hb4 HSM v1 v2
              cases hs : sums3 (colL4 L n g) (priQ P g) with
              | false =>
                have HN := HNO.out.2 g hgk (by rw [HCB.out, hs])
                clear hs
                go_wp2_with fail
                go_ret
                exact ⟨ret_bool HN.out.symm, HG.out.2.2.trans (HB4.out.mono HG.out.2.2.size)⟩
              | true =>
                rw [hs] at HCB
                clear hs
                go_wp2_with fail
                go_roundw
                case rel => exact ⟨g + 1, by omega, by go_num, fun x hx => by
                  rcases Nat.lt_or_ge x g with h1 | h1
                  · exact HG.out.1 x h1
                  · rw [show x = g by omega]; exact HCB.out, HG.out.2.1.trans (HB4.out.mono HG.out.2.1.size)⟩
                case measure => simp [intOf]; omega
        · obtain rfl : k = g := by omega
          have HT : Hid (balB B V P L = true) := Lib.hid (by
            rw [← H.out.2.2.2.2.2.2.2.2.2.2]
            unfold refBal
            rw [Bool.and_eq_true, List.all_eq_true, List.all_eq_true]
            exact ⟨fun i hi => HR.out.1 i (List.mem_range.1 hi), fun g hg => HG.out.1 g (List.mem_range.1 hg)⟩)
          go_wp2_with fail
          go_ret
          exact ⟨ret_bool HT.out.symm, HG.out.2.2⟩

/- Contract: Spendings of the reference of the market. -/

/-- What Spendings says of rows of pairs. -/
def spsOk (B : List Int) (V : List (List Int)) (L : List (List (Int × Int))) : Bool := L.all (rowSp V) && decide (L.length = B.length)
set_option maxRecDepth 100000 in
set_option maxHeartbeats 1600000 in
theorem r4spendings_any (A : Option Addr) (n c : Nat) (U : Option Addr) (m d : Nat) (S : Option Addr) (cs : Nat) (B : List Int) (V : List (List Int)) (L : List (List (Int × Int))) (w : World) (h : MktAt w A n U m B V) (hm : 1 ≤ m) (hS : PMat w S L) (hl : L.length ≤ 9223372036854775807) (hi : ∀ r ∈ L, I64s r) (hr : ∀ r ∈ L, r.length ≤ 9223372036854775807) :
    Calls Try.prog 25 #[.agg #[.slice A n c, .slice U m d], .slice S L.length cs] w fun e w' => e = .returned (.bool (spsOk B V L)) ∧ Below w.heap.size w w' := by
  have hb1 : Below w.heap.size w (w.alloc (.cells #[.slice A n c, .slice U m d] 25)) := (Below.refl _ _).alloc (Nat.le_refl _) _
  have hM1 : Blk (w.alloc (.cells #[.slice A n c, .slice U m d] 25)) w.heap.size 25 #[.slice A n c, .slice U m d] := Blk.new _ _ _ rfl
  obtain ⟨aU, rfl, _, hcU⟩ := h.uses.some_ (by rw [h.hV]; omega)
  obtain ⟨R0, c0, hc0, _⟩ := hcU 0 _ (rowV_some (by rw [h.hV]; omega))
  have e0 : aU.add 0 = aU := by simp [Addr.add]
  have hk : (rowV V 0).length = goodsN V := rfl
  rw [e0, hk] at hc0
  obtain ⟨l, hll⟩ : ∃ l, l = L.length := ⟨_, rfl⟩
  rw [← hll] at hl ⊢
  obtain ⟨k, hkk⟩ : ∃ k, k = goodsN V := ⟨_, rfl⟩
  rw [← hkk] at hc0
  have H := Lib.hid (And.intro hS (And.intro hi (And.intro hb1 (And.intro hM1 (And.intro hc0 (And.intro hll (And.intro hr (And.intro hkk h.hB))))))))
  clear h hS hi hb1 hM1 hcU hc0 hll e0 hk hr hkk
  go_enter Try.func25, Try.ntmps25
  go_wp2_with fail
  go_loopw [11] (fun iv wx => ∃ j : Nat, j ≤ l ∧ iv = .int .i64 j ∧ (L.take j).all (rowSp V) = true ∧ Blk wx w.heap.size 25 #[.slice A n c, .slice (some aU) m d] ∧ Below w.heap.size w wx) (fun iv _ => l - (intOf iv).toNat)
  case atStart => exact ⟨0, Nat.zero_le _, rfl, by simp, H.out.2.2.2.1, H.out.2.2.1⟩
  case round =>
    obtain ⟨j, hj, rfl, hall, hmk, hbl⟩ := hrel
    obtain ⟨wo, rfl⟩ : ∃ wo : World, wo = wr := ⟨_, rfl⟩
    have HR := Lib.hid (And.intro hall (And.intro hmk hbl))
    have hml := hmk.lt
    clear hall hmk hbl
    by_cases hlt : j < l
    · obtain ⟨aS, rfl, _, hcS⟩ := H.out.1.some_ (by rw [← H.out.2.2.2.2.2.1]; omega)
      obtain ⟨ps, hps⟩ : ∃ p, L[j]? = some p := ⟨_, List.getElem?_eq_getElem (by rw [← H.out.2.2.2.2.2.1]; exact hlt)⟩
      obtain ⟨A', c', g1, hP⟩ := hcS j _ hps
      have hm' := List.mem_of_getElem? hps
      have hrl := H.out.2.2.2.2.2.2.1 ps hm'
      have hri := H.out.2.1 ps hm'
      obtain ⟨rl, hrle⟩ : ∃ rl, rl = ps.length := ⟨_, rfl⟩
      rw [← hrle] at g1 hrl
      have c0 := (HR.out.2.2.cell (lt_of_cell H.out.2.2.2.2.1)).trans H.out.2.2.2.2.1
      have c1 := (HR.out.2.2.cell (lt_of_cell g1)).trans g1
      obtain ⟨m1, m2, _, _⟩ := HR.out.2.1.at2
      have HNO : rowSp V ps = false → Hid (spsOk B V L = false) := fun h => Lib.hid (by
        unfold spsOk
        rw [all_bad hps h, Bool.false_and])
      have HX := Lib.hid (And.intro hps (And.intro (hP.below HR.out.2.2) (And.intro hri (And.intro hrle HNO))))
      clear hps g1 hcS hP hri hrle HNO hm'
      by_cases hne : rl = k
      · have hrk : ¬ (rl : Int) ≠ (k : Int) := by omega
        subst hne
        go_wp2_with fail
        clear c1 m1 m2 c0
        go_loopw [25] (fun iv wx => ∃ i : Nat, i ≤ rl ∧ iv = .int .i64 i ∧ (ps.take i).all (okF 0) = true ∧ Below wo.heap.size wo wx) (fun iv _ => rl - (intOf iv).toNat)
        case atStart => exact ⟨0, Nat.zero_le _, rfl, by simp, Below.refl _ _⟩
        case round =>
          obtain ⟨i, hi, rfl, hall, hbl⟩ := hrel
          obtain ⟨wi, rfl⟩ : ∃ wo : World, wo = wr := ⟨_, rfl⟩
          have HI := Lib.hid (And.intro hall hbl)
          clear hall hbl
          by_cases hlt2 : i < rl
          · obtain ⟨aP, hAP, _, hcP⟩ := (HX.out.2.1.below HI.out.2).some_ (by rw [← HX.out.2.2.2.1]; omega)
            subst hAP
            obtain ⟨⟨a, b⟩, hp⟩ : ∃ p, ps[i]? = some p := ⟨_, List.getElem?_eq_getElem (by rw [← HX.out.2.2.2.1]; exact hlt2)⟩
            obtain ⟨c0, c1⟩ := hcP i _ hp
            obtain ⟨ra, rb⟩ := HX.out.2.2.1 _ (List.mem_of_getElem? hp)
            simp only at c0 c1 ra rb
            have hbz : Below wi.heap.size wi (wi.alloc (.cells #[.int .i64 a, .int .i64 b] 37)) := (Below.refl _ _).alloc (Nat.le_refl _) _
            have HP := Lib.hid (And.intro hp hbz)
            have HLW := Lib.hid fun w' => rlowest_any a b w' ra.1 ra.2 rb.2
            clear hp hcP hbz
            go_wp2_with fail
            refine (HLW.out _).mono ?_
            rintro e w2 ⟨rfl, hb2⟩
            have hX2 : Blk w2 wi.heap.size 37 #[.int .i64 a, .int .i64 b] := (Blk.new _ _ _ rfl).below hb2 (by simp)
            have hbo2 := HI.out.2.trans ((HP.out.2.trans (hb2.mono HP.out.2.size)).mono HI.out.2.size)
            have H2 := Lib.hid (And.intro hbo2 (HR.out.2.2.trans (hbo2.mono HR.out.2.2.size)))
            obtain ⟨x0, x1, _, _⟩ := hX2.at2
            have hok := okF_low (least := 0) (a := a) (b := b) (by decide)
            have HNO : okF 0 (a, b) = false → Hid (spsOk B V L = false) := fun h => HX.out.2.2.2.2 (by
              unfold rowSp
              rw [all_bad HP.out.1 h, Bool.false_and])
            have HOK := Lib.hid (And.intro hok HNO)
            clear hX2 hbo2 hb2 c0 c1 HLW hok HNO
            cases hlow : lowB a b with
            | false =>
              have HN := HOK.out.2 (by rw [HOK.out.1, hlow]; rfl)
              clear hlow
              go_wp2_with fail
              go_ret
              exact ⟨by rw [HN.out]; rfl, H2.out.2⟩
            | true =>
              have HL := Lib.hid hlow
              clear hlow
              by_cases h1 : a < 0
              · have HN := HOK.out.2 (by rw [HOK.out.1, decide_eq_false (show ¬ 0 ≤ a by omega)]; simp)
                go_wp2_with fail
                go_ret
                exact ⟨by rw [HN.out]; rfl, H2.out.2⟩
              by_cases h2 : 1048576 < a
              · have HN := HOK.out.2 (by rw [HOK.out.1, decide_eq_false (show ¬ a ≤ 1048576 by omega)]; simp)
                go_wp2_with fail
                go_ret
                exact ⟨by rw [HN.out]; rfl, H2.out.2⟩
              by_cases h3 : 1048576 < b
              · have HN := HOK.out.2 (by rw [HOK.out.1, decide_eq_false (show ¬ b ≤ 1048576 by omega)]; simp)
                go_wp2_with fail
                go_ret
                exact ⟨by rw [HN.out]; rfl, H2.out.2⟩
              have HY : Hid (okF 0 (a, b) = true) := Lib.hid (by rw [HOK.out.1, HL.out, decide_eq_true (show 0 ≤ a by omega), decide_eq_true (show a ≤ 1048576 by omega), decide_eq_true (show b ≤ 1048576 by omega)]; rfl)
              go_wp2_with fail
              go_roundw
              case rel => exact ⟨i + 1, by omega, by go_num, all_take_s HP.out.1 HI.out.1 HY.out, H2.out.1⟩
              case measure => simp [intOf]; omega
          · obtain rfl : rl = i := by omega
            have hall := HI.out.1
            rw [List.take_of_length_le (by rw [← HX.out.2.2.2.1]; exact Nat.le_refl _)] at hall
            have hrow : rowSp V ps = true := by
              unfold rowSp
              rw [hall, ← HX.out.2.2.2.1, decide_eq_true H.out.2.2.2.2.2.2.2.1]; rfl
            have HRW := Lib.hid hrow
            clear hall hrow
            go_wp2_with fail
            go_roundw
            case rel => exact ⟨j + 1, by omega, by go_num, all_take_s HX.out.1 HR.out.1 HRW.out, HR.out.2.1.below HI.out.2 hml, HR.out.2.2.trans (HI.out.2.mono HR.out.2.2.size)⟩
            case measure => simp [intOf]; omega
      · have hne' : ¬ ((rl : Int) = (k : Int)) := by omega
        have HN := HX.out.2.2.2.2 (by
          unfold rowSp
          rw [decide_eq_false (by rw [← HX.out.2.2.2.1, ← H.out.2.2.2.2.2.2.2.1]; exact hne), Bool.and_false])
        go_wp2_with fail
        go_ret
        exact ⟨by rw [HN.out]; rfl, HR.out.2.2⟩
    · obtain rfl : l = j := by omega
      obtain ⟨m1, m2, _, _⟩ := HR.out.2.1.at2
      have hall := HR.out.1
      rw [List.take_of_length_le (by rw [← H.out.2.2.2.2.2.1]; exact Nat.le_refl _)] at hall
      have hres : spsOk B V L = decide ((l : Int) = (n : Int)) := by
        unfold spsOk
        rw [hall, ← H.out.2.2.2.2.2.1, H.out.2.2.2.2.2.2.2.2, Bool.true_and, decide_eq_decide]
        omega
      have HRES := Lib.hid hres
      clear hall hres
      go_wp2_with fail
      go_ret
      refine ⟨?_, HR.out.2.2⟩
      rw [HRES.out]
      rfl

/- MarketChecks: the walk. -/

theorem take6_of {α : Type} {l : List α} {m : Nat} (h : (l.take 6).length = m) (hm : m ≤ 3) : l.take 6 = l := take_of_le (by omega)
theorem chk_cut {B : List Int} {V : List (List Int)} {ps : List (Int × Int)} {L : List (List (Int × Int))} (hv : validM B V = true) : chkB B V (ps.take 6) (spsV L) = (prsOk V ps && (spsOk B V L && balB B V (toQ ps) (L.map toQ))) := by
  obtain ⟨⟨a1, a2, a3, a4⟩, b1, b2, b3⟩ := validM_iff.1 hv
  have hLl : spsV L = (L.take 6).map (·.take 6) := rfl
  have h1 : chkB B V (ps.take 6) (spsV L) = true → ps.take 6 = ps ∧ spsV L = L := by
    intro h
    unfold chkB prsOk at h
    simp only [Bool.and_eq_true, decide_eq_true_eq] at h
    obtain ⟨⟨_, h2⟩, h3, h4, _⟩ := h
    refine ⟨take6_of h2 b1.2, ?_⟩
    have hT : L.take 6 = L := by
      refine take6_of (m := B.length) ?_ a2
      rw [hLl, List.length_map] at h3
      exact h3
    rw [hLl, hT] at h4 ⊢
    conv => rhs; rw [← List.map_id L]
    refine List.map_congr_left fun r hr => ?_
    have h5 := List.all_eq_true.1 h4 (r.take 6) (List.mem_map.2 ⟨r, hr, rfl⟩)
    unfold rowSp at h5
    rw [Bool.and_eq_true, decide_eq_true_eq] at h5
    exact take6_of h5.2 b1.2
  have h2 : (prsOk V ps && (spsOk B V L && balB B V (toQ ps) (L.map toQ))) = true → ps.take 6 = ps ∧ spsV L = L := by
    intro h
    unfold prsOk spsOk at h
    simp only [Bool.and_eq_true, decide_eq_true_eq] at h
    obtain ⟨⟨_, h2⟩, ⟨h4, h3⟩, _⟩ := h
    refine ⟨List.take_of_length_le (by omega), ?_⟩
    rw [hLl, List.take_of_length_le (l := L) (by omega)]
    conv => rhs; rw [← List.map_id L]
    refine List.map_congr_left fun r hr => ?_
    have h5 := List.all_eq_true.1 h4 r hr
    unfold rowSp at h5
    rw [Bool.and_eq_true, decide_eq_true_eq] at h5
    exact List.take_of_length_le (by omega)
  by_cases h : ps.take 6 = ps ∧ spsV L = L
  · rw [h.1, h.2]
    unfold chkB spsOk
    rw [Bool.eq_iff_iff]
    simp only [Bool.and_eq_true, decide_eq_true_eq]
    exact ⟨fun ⟨x1, x2, x3, x4⟩ => ⟨x1, ⟨x3, x2⟩, x4⟩, fun ⟨x1, ⟨x3, x2⟩, x4⟩ => ⟨x1, x2, x3, x4⟩⟩
  · rw [Bool.eq_false_iff.2 fun hx => h (h1 hx), Bool.eq_false_iff.2 fun hx => h (h2 hx)]
set_option maxRecDepth 100000 in
set_option maxHeartbeats 4000000 in
theorem law_mchecks (A : Option Addr) (n c : Nat) (U : Option Addr) (m d : Nat) (B : List Int) (V : List (List Int)) (P : Option Addr) (cp : Nat) (ps : List (Int × Int)) (S : Option Addr) (cs : Nat) (L : List (List (Int × Int))) (W : World) (hK : MktArg W A n c U m d B V)
    (hpc : ps.length ≤ cp) (hpm : cp ≤ 9223372036854775807) (hP : Prs W P ps) (hi : I64s ps) (hsc : L.length ≤ cs) (hsm : cs ≤ 9223372036854775807) (hS : CMat W S L) (hsi : ∀ r ∈ L, I64s r) :
    Calls Try.prog 11 #[mktV A n c U m d, .slice P ps.length cp, .slice S L.length cs] W fun e w' => e = .returned (.bool true) ∧ Below W.heap.size W w' := by
  have hC1 := Ch.start W A n c U m d
  obtain ⟨w1, hw1⟩ : ∃ w1, w1 = W.alloc (.cells #[.slice A n c, .slice U m d] 25) := ⟨_, rfl⟩
  rw [← hw1] at hC1
  have hSP : ∀ w', Below W.heap.size W w' → PMat w' S L := fun w' hb j ps hj => by
    obtain ⟨ad, A', c', h1, h2, h3, h4, h5⟩ := hS j ps hj
    exact ⟨ad, A', c', h1, (hb.cell (lt_of_cell h2)).trans h2, h5.below hb⟩
  have hSL : ∀ r ∈ L, r.length ≤ 9223372036854775807 := fun r hr => by
    obtain ⟨j, hj⟩ := List.getElem?_of_mem hr
    obtain ⟨ad, A', c', h1, h2, h3, h4, h5⟩ := hS j r hj
    omega
  obtain ⟨lp, hlp⟩ : ∃ lp, lp = ps.length := ⟨_, rfl⟩
  obtain ⟨ls, hls⟩ : ∃ ls, ls = L.length := ⟨_, rfl⟩
  rw [← hlp] at hpc ⊢
  rw [← hls] at hsc ⊢
  have HK := Lib.hid (And.intro hK (And.intro hP (And.intro hi (And.intro hlp (And.intro hS (And.intro hsi (And.intro hls (And.intro hSP hSL))))))))
  have HC1 := Lib.hid hC1
  obtain ⟨m1, m2, _, _⟩ := hC1.1.at2
  clear hK hC1 hP hi hlp hS hsi hls hSP hSL
  unfold mktV
  go_enter Try.func11, Try.ntmps11
  go_wp2_with fail
  rw [← hw1]
  clear hw1
  refine ((HK.out.1.below HC1.out.2).of).mono ?_
  rintro e w2 ⟨A2, n2, c2, U2, q2, d2, b2, vs2, rfl, hO2⟩
  have HC2 := Lib.hid (HC1.out.next hO2.below)
  have HO2 := Lib.hid hO2
  clear hO2 m1 m2
  go_wp2_with fail
  refine (l4prices_any P lp cp ps w2 HK.out.2.2.2.1.symm hpc hpm (HK.out.2.1.below HC2.out.2)).mono ?_
  rintro e w7 ⟨A7, c7, rfl, hown7, hb7⟩
  have HC7 := Lib.hid (HC2.out.next hb7)
  have hl7 : (ps.take 6).length = min lp 6 := by rw [List.length_take, HK.out.2.2.2.1]; omega
  obtain ⟨l7, hl7'⟩ : ∃ l7, l7 = min lp 6 := ⟨_, rfl⟩
  rw [← hl7'] at hl7 hown7 ⊢
  have h76 : l7 ≤ 6 := by omega
  have H7 := Lib.hid (And.intro (show Prs w7 A7 (ps.take 6) from At.of_own hown7) (And.intro hl7 hb7))
  clear hown7 hl7 hb7 hl7'
  go_wp2_with fail
  refine (l4spendings_any S ls cs L w7 HK.out.2.2.2.2.2.2.1.symm (by omega) (fun j ps hj => by
    obtain ⟨ad, A', c', h1, h2, h3, h4, h5⟩ := HK.out.2.2.2.2.1 j ps hj
    exact ⟨ad, A', c', h1, (HC7.out.2.cell (lt_of_cell h2)).trans h2, h3, h4, h5.below HC7.out.2⟩)).mono ?_
  rintro e w8 ⟨A8, q8, c8, rfl, hq8, hM8, hb8⟩
  have HC8 := Lib.hid (HC7.out.next hb8)
  have hq86 : q8 ≤ 6 := by rw [← hq8, spsV_length]; omega
  have HCK := Lib.hid (of_check HO2.out (H7.out.2.2.trans (hb8.mono H7.out.2.2.size)) A7 l7 c7 (ps.take 6) A8 q8 c8 (spsV L) (H7.out.1.below hb8) H7.out.2.1 (by omega) (HK.out.2.2.1.take 6) hM8 hq8 (by omega) (spsV_i64 HK.out.2.2.2.2.2.1) (spsV_short L))
  clear hq8 hM8 hb8
  go_wp2_with fail
  refine HCK.out.mono ?_
  rintro e w9 ⟨hb9, rfl⟩
  have HC9 := Lib.hid (HC8.out.next hb9)
  obtain ⟨m1, m2, _, _⟩ := HC9.out.1.at2
  have HV := Lib.hid (HK.out.1.below HC9.out.2).valid
  clear hb9 HCK
  cases hv : validM B V with
  | false =>
    rw [hv] at HV
    clear hv
    go_wp2_with fail
    refine HV.out.mono ?_
    rintro e w10 ⟨rfl, hb10⟩
    have HC10 := Lib.hid (HC9.out.next hb10)
    clear hb10 m1 m2 HV
    go_wp2_with fail
    refine (l4awake_any _).mono ?_
    rintro e w11 ⟨rfl, hb11⟩
    have HC11 := Lib.hid (HC10.out.next hb11)
    clear hb11
    go_wp2_with fail
    go_ret
    exact ⟨rfl, HC11.out.2⟩
  | true =>
    rw [hv] at HV
    have hcut := chk_cut (ps := ps) (L := L) hv
    obtain ⟨⟨a1, a2, a3, a4⟩, b1, b2, b3⟩ := validM_iff.1 hv
    have hmk := fun w' (hb : Below W.heap.size W w') => mkIn_of (HK.out.1.below hb).mkt hv
    have hmn : 1 ≤ m := by have := HK.out.1.mkt.hV; omega
    have HX := Lib.hid (And.intro hv (And.intro hcut hmk))
    obtain ⟨ck, hck⟩ : ∃ b, b = chkB B V (ps.take 6) (spsV L) := ⟨_, rfl⟩
    rw [if_pos rfl, ← hck]
    rw [← hck] at hcut
    have HCT := Lib.hid hcut
    clear hv hcut hmk a1 a2 a3 a4 b1 b2 b3 hck
    go_wp2_with fail
    refine HV.out.mono ?_
    rintro e w10 ⟨rfl, hb10⟩
    have HC10 := Lib.hid (HC9.out.next hb10)
    clear hb10 m1 m2 HV
    obtain ⟨m1, m2, _, _⟩ := HC10.out.1.at2
    have hpp := r4prices_any A n c U m d P cp B V ps w10 (HK.out.1.below HC10.out.2).mkt hmn (HK.out.2.1.below HC10.out.2) (by rw [← HK.out.2.2.2.1]; omega) HK.out.2.2.1
    rw [← HK.out.2.2.2.1] at hpp
    have HPP := Lib.hid hpp
    clear hpp
    go_wp2_with fail
    refine HPP.out.mono ?_
    rintro e w11 ⟨rfl, hb11⟩
    have HC11 := Lib.hid (HC10.out.next hb11)
    clear hb11 m1 m2 HPP
    obtain ⟨m1, m2, _, _⟩ := HC11.out.1.at2
    cases hpo : prsOk V ps with
    | false =>
      rw [hpo, Bool.false_and] at HCT
      have hcf := HCT.out
      subst hcf
      clear hpo
      go_wp2_with fail
      refine (l4awake_any _).mono ?_
      rintro e w12 ⟨rfl, hb12⟩
      have HC12 := Lib.hid (HC11.out.next hb12)
      clear hb12
      go_wp2_with fail
      go_ret
      exact ⟨rfl, HC12.out.2⟩
    | true =>
      rw [hpo, Bool.true_and] at HCT
      have HPO := Lib.hid hpo
      clear hpo
      have hss := r4spendings_any A n c U m d S cs B V L w11 (HK.out.1.below HC11.out.2).mkt hmn (HK.out.2.2.2.2.2.2.2.1 _ HC11.out.2) (by rw [← HK.out.2.2.2.2.2.2.1]; omega) HK.out.2.2.2.2.2.1 HK.out.2.2.2.2.2.2.2.2
      rw [← HK.out.2.2.2.2.2.2.1] at hss
      have HSS := Lib.hid hss
      clear hss
      go_wp2_with fail
      refine HSS.out.mono ?_
      rintro e w12 ⟨rfl, hb12⟩
      have HC12 := Lib.hid (HC11.out.next hb12)
      clear hb12 m1 m2 HSS
      obtain ⟨m1, m2, _, _⟩ := HC12.out.1.at2
      cases hso : spsOk B V L with
      | false =>
        rw [hso, Bool.false_and] at HCT
        have hcf := HCT.out
        subst hcf
        clear hso
        go_wp2_with fail
        refine (l4awake_any _).mono ?_
        rintro e w13 ⟨rfl, hb13⟩
        have HC13 := Lib.hid (HC12.out.next hb13)
        clear hb13
        go_wp2_with fail
        go_ret
        exact ⟨rfl, HC13.out.2⟩
      | true =>
        rw [hso, Bool.true_and] at HCT
        obtain ⟨hmn2, hmkI⟩ := HX.out.2.2 w12 HC12.out.2
        subst hmn2
        have hpo := HPO.out
        unfold prsOk at hpo
        unfold spsOk at hso
        rw [Bool.and_eq_true, decide_eq_true_eq] at hpo hso
        have hLn : L.length = m := by rw [hso.2]; exact HK.out.1.mkt.hB
        have hrows : ∀ x ∈ L, x.all (okF 0) = true ∧ x.length = goodsN V := fun x hx => by
          have := List.all_eq_true.1 hso.1 x hx
          unfold rowSp at this
          rwa [Bool.and_eq_true, decide_eq_true_eq] at this
        have hLpr : L = (L.map toQ).map fun r => r.map pr := by
          rw [List.map_map]
          conv => lhs; rw [← List.map_id L]
          exact List.map_congr_left fun x hx => (toQ_pr (hrows x hx).1).symm
        have hFP : Fracs w12 P (toQ ps) := by
          unfold Go.Proofs.Ytnljnjnmhbkdoaa.Fracs
          rw [toQ_pr hpo.1]
          exact HK.out.2.1.below HC12.out.2
        have hFS : FMat w12 S (L.map toQ) := by
          have h1 := HK.out.2.2.2.2.2.2.2.1 _ HC12.out.2
          rw [hLpr] at h1
          exact h1.fmat
        have hbl := r4balance_any A m c U d (goodsN V) cp cs P S B V (toQ ps) (L.map toQ) w12 hmkI hFP (by rw [toQ_length]; exact hpo.2) (toQ_ok hpo.1) hFS (by rw [List.length_map]; exact hLn) (fun r hr => by
          obtain ⟨x, hx, rfl⟩ := List.mem_map.1 hr
          rw [toQ_length]; exact (hrows x hx).2) (fun r hr q hq => by
          obtain ⟨x, hx, rfl⟩ := List.mem_map.1 hr
          obtain ⟨⟨_, q2, q3⟩, q4⟩ := toQ_sp (hrows x hx).1 q hq
          exact ⟨q4, q2, q3⟩)
        rw [← hpo.2, ← HK.out.2.2.2.1, ← hLn, ← HK.out.2.2.2.2.2.2.1] at hbl
        have hlm : ls = m := by rw [HK.out.2.2.2.2.2.2.1]; exact hLn
        subst hlm
        have hck := HCT.out
        subst hck
        have HBL := Lib.hid hbl
        clear hso hpo hLn hrows hLpr hFP hFS hbl hmkI
        generalize balB B V (toQ ps) (L.map toQ) = bb at *
        go_wp2_with fail
        refine HBL.out.mono ?_
        rintro e w13 ⟨rfl, hb13⟩
        have HC13 := Lib.hid (HC12.out.next hb13)
        clear hb13 m1 m2 HBL
        cases bb
        all_goals
          go_wp2_with fail
          refine (l4awake_any _).mono ?_
          rintro e w14 ⟨rfl, hb14⟩
          have HC14 := Lib.hid (HC13.out.next hb14)
          clear hb14
          go_wp2_with fail
          go_ret
          exact ⟨rfl, HC14.out.2⟩
end Go.Proofs.Ytnljnjnmhbkdoaa
