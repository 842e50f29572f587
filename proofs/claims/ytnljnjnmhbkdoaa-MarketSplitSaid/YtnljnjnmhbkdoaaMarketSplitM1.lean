/- Laws and contracts that the proof of MarketSplit uses, part 7. -/
import Derived.Test.YtnljnjnmhbkdoaaBaseM6
import Derived.Test.YtnljnjnmhbkdoaaBaseM2
import Derived.Test.YtnljnjnmhbkdoaaBaseM1
import Derived.Test.YtnljnjnmhbkdoaaBaseM5
import Derived.Deep.RegionLaw
namespace Go.Proofs.Ytnljnjnmhbkdoaa
open Go.RowKit

/- An int among a statement's arguments, opened. -/
open Go.ChangeShapes Go.WideShapes Go.ChangeAt Go.RowKit

section
variable {H : Type} {enc : TypeId × Value → H}
set_option maxRecDepth 100000 in
theorem open_intI {W : World} {v : Value} {d : DataW H} {p : List MemPlace} {spare : Nat → Bool} {b b0 : Nat} {r : Reach} (h : DataW.Trod enc Try.prog W b spare true 3 v d p) (hv : Value.okWide Try.prog W r b0 3 v) :
    ∃ i : Int, v = .int .i64 i ∧ -9223372036854775808 ≤ i ∧ i ≤ 9223372036854775807 := by
  obtain ⟨n, h1, _, _, h2⟩ := open_int Try.underlying3 hv h
  refine ⟨n, h1, ?_⟩
  simp [Lit.wf, IntKind.min, IntKind.max, IntKind.signed, IntKind.bits] at h2
  omega
end

/- Contract: slices.Equal of ints. -/

set_option maxHeartbeats 800000 in
theorem equal_any (A A' : Option Addr) (n n' cap cap' : Nat) (ps qs : List Int) (w : World) (hl : ps.length = n) (hl' : qs.length = n') (hm : n ≤ 9223372036854775807) (h : Ints w A ps) (h' : Ints w A' qs) :
    Calls Try.prog 34 #[.slice A n cap, .slice A' n' cap'] w fun e w' => e = .returned (.bool (eqB ps qs)) ∧ ∃ m, w' = w.drewN m := by
  by_cases hnn : n = n'
  · subst hnn
    by_cases h0 : n = 0
    · subst h0
      obtain rfl := List.eq_nil_of_length_eq_zero hl
      obtain rfl := List.eq_nil_of_length_eq_zero hl'
      go_enter Try.func34, Try.ntmps34
      go_wp2
      refine wp_loop_rounds 1 ?_
      rw [rounds_succ]
      go_wp2
      go_ret
      exact ⟨rfl, 0, rfl⟩
    · obtain ⟨ad, rfl, _, hc⟩ := h.some_ (by omega)
      obtain ⟨ad', rfl, _, hc'⟩ := h'.some_ (by omega)
      have H := Lib.hid (And.intro hl (And.intro hl' (And.intro hc hc')))
      clear hl hl' hc hc' h h'
      go_enter Try.func34, Try.ntmps34
      go_wp2
      go_loopw [13] (fun iv wr => ∃ k : Nat, k ≤ n ∧ iv = .int .i64 k ∧ ps.take k = qs.take k ∧ ∃ m, wr = w.drewN m) (fun iv _ => n - (intOf iv).toNat)
      case atStart => exact ⟨0, Nat.zero_le _, rfl, rfl, 0, rfl⟩
      case round =>
        obtain ⟨k, hk, rfl, ht, m, rfl⟩ := hrel
        have HT := Lib.hid ht
        clear ht
        obtain ⟨hl, hl', hc, hc'⟩ := H.out
        by_cases hlt : k < n
        · obtain ⟨p, hp⟩ : ∃ p, ps[k]? = some p := ⟨_, List.getElem?_eq_getElem (by omega)⟩
          obtain ⟨q, hq⟩ : ∃ q, qs[k]? = some q := ⟨_, List.getElem?_eq_getElem (by omega)⟩
          have c1 := hc k p hp
          have c2 := hc' k q hq
          have HP := Lib.hid (And.intro hp hq)
          clear hp hq hc hc' hl hl'
          by_cases he : p = q
          · subst he
            go_wp2_with fail
            go_quiet (fail)
            go_wp2_with fail
            go_roundw
            case rel => exact ⟨k + 1, by omega, by go_num, take_eq_succ HP.out.1 HP.out.2 HT.out, by first | exact ⟨_, rfl⟩ | exact ⟨_, World.drewN_drewN _ _ _⟩⟩
            case measure => simp [intOf]; omega
          · have hne : (p != q) = true := by simpa using he
            have HNE := Lib.hid he
            clear he
            go_wp2_with fail
            go_quiet (fail)
            go_wp2_with fail
            go_ret
            exact ⟨ret_bool (eqB_at HP.out.1 HP.out.2 HNE.out).symm, by first | exact ⟨_, rfl⟩ | exact ⟨_, World.drewN_drewN _ _ _⟩⟩
        · obtain rfl : k = n := by omega
          have HF : Hid (eqB ps qs = true) := Lib.hid (eqB_all hl hl' HT.out)
          clear hl hl' hc hc'
          go_wp2
          go_ret
          exact ⟨ret_bool HF.out.symm, m, rfl⟩
  · have HF : Hid (eqB ps qs = false) := Lib.hid (eqB_len (by omega))
    have hne : ((n : Int) != (n' : Int)) = true := by rw [bne_iff_ne]; omega
    clear hl hl' h h'
    go_enter Try.func34, Try.ntmps34
    go_wp2
    go_ret
    exact ⟨ret_bool HF.out.symm, 0, rfl⟩

/- MarketWants: the walk. -/

theorem I64s.take {ps : List (Int × Int)} (h : I64s ps) (k : Nat) : I64s (ps.take k) := fun p hp => h p (List.mem_of_mem_take hp)
theorem prsOk_take {B : List Int} {V : List (List Int)} (hv : validM B V = true) (ps : List (Int × Int)) : prsOk V (ps.take 6) = prsOk V ps := by
  have hg := (validM_iff.1 hv).2.1.2
  by_cases h : ps.length ≤ 6
  · rw [List.take_of_length_le h]
  · unfold prsOk
    rw [decide_eq_false (show ¬ (ps.take 6).length = goodsN V by rw [List.length_take]; omega), decide_eq_false (show ¬ ps.length = goodsN V by omega), Bool.and_false, Bool.and_false]
theorem prs_small {B : List Int} {V : List (List Int)} (hv : validM B V = true) {ps : List (Int × Int)} (h : prsOk V ps = true) : ps.length = goodsN V ∧ ps.take 6 = ps ∧ ps.all (okF 1) = true := by
  have hg := (validM_iff.1 hv).2.1.2
  unfold prsOk at h
  rw [Bool.and_eq_true, decide_eq_true_eq] at h
  exact ⟨h.2, List.take_of_length_le (by omega), h.1⟩
theorem wantF_none {B : List Int} {V : List (List Int)} {ps : List (Int × Int)} (h : validM B V = false ∨ prsOk V ps = false) : wantF B V (ps.take 6) = none := by
  unfold wantF
  cases hv : validM B V with
  | false => rfl
  | true =>
    rcases h with h | h
    · rw [hv] at h; cases h
    · rw [prsOk_take hv, h]; rfl
theorem wantF_yes {B : List Int} {V : List (List Int)} {ps : List (Int × Int)} (hv : validM B V = true) (h : prsOk V ps = true) : wantF B V (ps.take 6) = some ((List.range B.length).map fun i => wantS (rowV V i) (toQ ps)) := by
  unfold wantF
  rw [prsOk_take hv, hv, h, (prs_small hv h).2.1]
  rfl
set_option maxRecDepth 100000 in
set_option maxHeartbeats 4000000 in
theorem law_mwants (A : Option Addr) (n c : Nat) (U : Option Addr) (m d : Nat) (B : List Int) (V : List (List Int)) (P : Option Addr) (cp : Nat) (ps : List (Int × Int)) (W : World) (hK : MktArg W A n c U m d B V) (hpc : ps.length ≤ cp) (hpm : cp ≤ 9223372036854775807) (hP : Prs W P ps) (hi : I64s ps) :
    Calls Try.prog 10 #[mktV A n c U m d, .slice P ps.length cp] W fun e w' => e = .returned (.bool true) ∧ Below W.heap.size W w' := by
  have hC1 := Ch.start W A n c U m d
  obtain ⟨w1, hw1⟩ : ∃ w1, w1 = W.alloc (.cells #[.slice A n c, .slice U m d] 25) := ⟨_, rfl⟩
  rw [← hw1] at hC1
  obtain ⟨lp, hlp⟩ : ∃ lp, lp = ps.length := ⟨_, rfl⟩
  rw [← hlp] at hpc ⊢
  have HK := Lib.hid (And.intro hK (And.intro hP (And.intro hi hlp)))
  have HC1 := Lib.hid hC1
  obtain ⟨m1, m2, _, _⟩ := hC1.1.at2
  clear hK hC1 hP hi hlp
  unfold mktV
  go_enter Try.func10, Try.ntmps10
  go_wp2_with fail
  rw [← hw1]
  clear hw1
  refine ((HK.out.1.below HC1.out.2).of).mono ?_
  rintro e w2 ⟨A2, n2, c2, U2, q2, d2, b2, vs2, rfl, hO2⟩
  have HC2 := Lib.hid (HC1.out.next hO2.below)
  have HO2 := Lib.hid hO2
  clear hO2 m1 m2
  go_wp2_with fail
  refine (l4prices_any P lp cp ps w2 HK.out.2.2.2.symm hpc hpm (HK.out.2.1.below HC2.out.2)).mono ?_
  rintro e w3 ⟨A3, c3, rfl, hown3, hb3⟩
  have HC3 := Lib.hid (HC2.out.next hb3)
  have hl3 : (ps.take 6).length = min lp 6 := by rw [List.length_take, HK.out.2.2.2]; omega
  obtain ⟨l3, hl3'⟩ : ∃ l3, l3 = min lp 6 := ⟨_, rfl⟩
  rw [← hl3'] at hl3 ⊢
  have h36 : l3 ≤ 6 := by omega
  have HW := Lib.hid (of_want HO2.out hb3 A3 l3 c3 (ps.take 6) (At.of_own hown3) hl3 (by omega) (HK.out.2.2.1.take 6))
  clear hown3 hb3 hl3 hl3'
  go_wp2_with fail
  refine HW.out.mono ?_
  intro ev w4 hpost
  unfold WantPost at hpost
  obtain ⟨hb4, hpost⟩ := hpost
  have HC4 := Lib.hid (HC3.out.next hb4)
  obtain ⟨m1, m2, _, _⟩ := HC4.out.1.at2
  clear hb4 HW
  have HV := Lib.hid (HK.out.1.below HC4.out.2).valid
  cases hv : validM B V with
  | false =>
    rw [wantF_none (.inl hv)] at hpost
    subst hpost
    rw [hv] at HV
    clear hv
    go_wp2_with fail
    refine HV.out.mono ?_
    rintro e w5 ⟨rfl, hb5⟩
    have HC5 := Lib.hid (HC4.out.next hb5)
    clear hb5
    go_wp2_with fail
    refine (l4awake_any _).mono ?_
    rintro e w6 ⟨rfl, hb6⟩
    have HC6 := Lib.hid (HC5.out.next hb6)
    clear hb6
    go_wp2_with fail
    go_ret
    exact ⟨rfl, HC6.out.2⟩
  | true =>
    have HVA := Lib.hid hv
    rw [hv] at HV
    cases hpk : prsOk V ps with
    | false =>
      rw [wantF_none (.inr hpk)] at hpost
      subst hpost
      have HPK := Lib.hid hpk
      clear hv hpk
      go_wp2_with fail
      refine HV.out.mono ?_
      rintro e w5 ⟨rfl, hb5⟩
      have HC5 := Lib.hid (HC4.out.next hb5)
      clear hb5 m1 m2
      obtain ⟨m1, m2, _, _⟩ := HC5.out.1.at2
      have HRP := Lib.hid (r4prices_any A n c U m d P cp B V ps w5 (HK.out.1.mkt.below HC5.out.2) (by have := (validM_iff.1 HVA.out).1; have := HK.out.1.mkt.hV; omega) (HK.out.2.1.below HC5.out.2) (by rw [← HK.out.2.2.2]; omega) HK.out.2.2.1)
      rw [← HK.out.2.2.2, HPK.out] at HRP
      go_wp2_with fail
      refine HRP.out.mono ?_
      rintro e w6 ⟨rfl, hb6⟩
      have HC6 := Lib.hid (HC5.out.next hb6)
      clear hb6
      go_wp2_with fail
      refine (l4awake_any _).mono ?_
      rintro e w7 ⟨rfl, hb7⟩
      have HC7 := Lib.hid (HC6.out.next hb7)
      clear hb7
      go_wp2_with fail
      go_ret
      exact ⟨rfl, HC7.out.2⟩
    | true =>
      rw [wantF_yes hv hpk] at hpost
      obtain ⟨A5, c5, rfl, hat⟩ := hpost
      have hsm := prs_small hv hpk
      have HPK := Lib.hid (And.intro hpk hsm)
      have hBn := HK.out.1.mkt.hB
      have e1 : ((List.range B.length).map fun i => wantS (rowV V i) (toQ ps)).length = n := by rw [List.length_map, List.length_range]; exact hBn
      rw [e1]
      have HAT := Lib.hid hat
      clear hv hpk hat e1 hsm
      go_wp2_with fail
      refine HV.out.mono ?_
      rintro e w5 ⟨rfl, hb5⟩
      have HC5 := Lib.hid (And.intro (HC4.out.next hb5) hb5)
      clear hb5 m1 m2
      obtain ⟨m1, m2, _, _⟩ := HC5.out.1.1.at2
      have HRP := Lib.hid (r4prices_any A n c U m d P cp B V ps w5 (HK.out.1.mkt.below HC5.out.1.2) (by have := (validM_iff.1 HVA.out).1; have := HK.out.1.mkt.hV; omega) (HK.out.2.1.below HC5.out.1.2) (by rw [← HK.out.2.2.2]; omega) HK.out.2.2.1)
      rw [← HK.out.2.2.2, HPK.out.1] at HRP
      go_wp2_with fail
      refine HRP.out.mono ?_
      rintro e w6 ⟨rfl, hb6⟩
      have HC6 := Lib.hid (And.intro (HC5.out.1.next hb6) (HC5.out.2.trans (hb6.mono HC5.out.2.size)))
      clear hb6 m1 m2
      obtain ⟨m1, m2, _, _⟩ := HC6.out.1.1.at2
      obtain ⟨rfl, hmk⟩ := mkIn_of (HK.out.1.mkt.below HC6.out.1.2) HVA.out
      have hl : lp = goodsN V := by rw [HK.out.2.2.2]; exact HPK.out.2.1
      have HRW := Lib.hid (r4want_any A m c U d (goodsN V) cp P B V (toQ ps) w6 hmk (by
        unfold Go.Proofs.Ytnljnjnmhbkdoaa.Fracs
        rw [toQ_pr HPK.out.2.2.2]
        exact HK.out.2.1.below HC6.out.1.2) (by rw [toQ_length]; exact HPK.out.2.1) (toQ_ok HPK.out.2.2.2))
      rw [← hl] at HRW
      have hm3 := hmk.hn
      clear hl hmk
      go_wp2_with fail
      refine HRW.out.mono ?_
      rintro e w7 ⟨A7, c7, rfl, hat7, hb7⟩
      have HC7 := Lib.hid (HC6.out.1.next hb7)
      have hat5 := (HAT.out.below HC6.out.2).below hb7
      have e2 : ((List.range B.length).map fun i => wantS (rowV V i) (toQ ps)).map (fun (s : Nat) => Value.int .i64 (s : Int)) = ((List.range m).map fun i => ((wantS (rowV V i) (toQ ps) : Nat) : Int)).map (Value.int .i64) := by rw [List.map_map, List.map_map, hBn]; rfl
      have e3 : wantV V (toQ ps) m = ((List.range m).map fun i => ((wantS (rowV V i) (toQ ps) : Nat) : Int)).map (Value.int .i64) := by unfold wantV; rw [List.map_map]; rfl
      rw [e2] at hat5
      rw [e3] at hat7
      have HEQ := Lib.hid (equal_any A5 A7 m m c5 c7 _ _ w7 (by simp) (by simp) (by omega) hat5 hat7)
      clear hat5 hat7 e2 e3 hb7 m1 m2
      go_wp2_with fail
      refine HEQ.out.mono ?_
      rintro e w8 ⟨rfl, m8, rfl⟩
      have HC8 : Hid (Below W.heap.size W (w7.drewN m8)) := Lib.hid (below_drewN HC7.out.2 m8)
      rw [show ∀ l : List Int, eqB l l = true from fun l => decide_eq_true rfl]
      clear HEQ
      go_wp2_with fail
      refine (l4awake_any _).mono ?_
      rintro e w9 ⟨rfl, hb9⟩
      have HC9 := Lib.hid (HC8.out.trans (hb9.mono HC8.out.size))
      clear hb9
      go_wp2_with fail
      go_ret
      exact ⟨rfl, HC9.out⟩

/- What Check says of what Prices and Spend return, and of others: laws. -/

section
variable {B : List Int} {V : List (List Int)} {r : List Rat × List (List Rat)}
theorem sps_okF (hP : prF B V = some r) {x : List Rat} (hx : x ∈ r.2) : (x.map pr).all (okF 0) = true := by
  obtain ⟨hv, hs⟩ := prF_ok hP
  have hE := hs.equi hv
  rw [List.all_eq_true]
  intro y hy
  obtain ⟨q, hq, rfl⟩ := List.mem_map.1 hy
  obtain ⟨i, hi⟩ := List.getElem?_of_mem hx
  obtain ⟨g, hg⟩ := List.getElem?_of_mem hq
  have hil : i < B.length := by rw [← hs.ls]; exact (List.getElem?_eq_some_iff.1 hi).1
  have hgl : g < goodsN V := by rw [← hs.lr x hx]; exact (List.getElem?_eq_some_iff.1 hg).1
  have hq0 : 0 ≤ q := by
    have h1 := hE.nn i g hil hgl
    unfold spd rowQ at h1
    rw [List.getD_eq_getElem?_getD, List.getD_eq_getElem?_getD, hi] at h1
    simp only [Option.getD_some] at h1
    rwa [hg] at h1
  obtain ⟨a1, a2, a3⟩ := hs.ss x hx q hq
  have hd := den_pos q
  exact okF_iff.2 ⟨Rat.num_nonneg.2 hq0, by omega, by omega, by omega, rat_lowest q⟩
theorem sps_i64 (hP : prF B V = some r) {x : List (Int × Int)} (hx : x ∈ r.2.map (·.map pr)) : I64s x := by
  obtain ⟨hv, hs⟩ := prF_ok hP
  obtain ⟨y, hy, rfl⟩ := List.mem_map.1 hx
  intro z hz
  obtain ⟨q, hq, rfl⟩ := List.mem_map.1 hz
  obtain ⟨a1, a2, a3⟩ := hs.ss y hy q hq
  have hd := den_pos q
  simp only [pr]
  omega
theorem chk_sol (hP : prF B V = some r) : chkB B V (r.1.map pr) (r.2.map (·.map pr)) = true := by
  obtain ⟨hv, hs⟩ := prF_ok hP
  have e2 : (r.2.map (·.map pr)).map toQ = r.2 := by
    rw [List.map_map]
    conv => rhs; rw [← List.map_id r.2]
    exact List.map_congr_left fun x _ => toQ_of_pr x
  have h1 : prsOk V (r.1.map pr) = true := by
    unfold prsOk
    rw [prices_okF hs.ps, List.length_map, decide_eq_true hs.lp]
    rfl
  have h2 : (r.2.map (·.map pr)).all (rowSp V) = true := by
    rw [List.all_eq_true]
    intro x hx
    obtain ⟨y, hy, rfl⟩ := List.mem_map.1 hx
    unfold rowSp
    rw [sps_okF hP hy, List.length_map, decide_eq_true (hs.lr y hy)]
    rfl
  unfold chkB
  rw [h1, h2, List.length_map, decide_eq_true hs.ls, e2, toQ_of_pr, hs.bal]
  rfl
theorem chk_only (hP : prF B V = some r) {ps : List (Int × Int)} {L : List (List (Int × Int))} (h : chkB B V ps L = true) : ps = r.1.map pr := by
  obtain ⟨hv, hs⟩ := prF_ok hP
  obtain ⟨hm, h2, h3⟩ := mkOk_of hv
  unfold chkB at h
  simp only [Bool.and_eq_true, decide_eq_true_eq] at h
  obtain ⟨hp, _, _, hb⟩ := h
  unfold prsOk at hp
  rw [Bool.and_eq_true, decide_eq_true_eq] at hp
  have hl : (toQ ps).length = goodsN V := by rw [toQ_length]; exact hp.2
  have hE := (bal_equi rfl hl (fun q hq => (toQ_ok hp.1 q hq).pos) h2 (fun i g => (h3 i g).1)).1 hb
  have hu := hE.unique (hs.equi hv) hm.un hm.us
  have e : toQ ps = r.1 := by
    apply List.ext_getElem?
    intro g
    by_cases hg : g < goodsN V
    · have h4 := hu g hg
      unfold priQ at h4
      rw [List.getD_eq_getElem?_getD, List.getD_eq_getElem?_getD] at h4
      rw [List.getElem?_eq_getElem (by omega), List.getElem?_eq_getElem (by rw [hs.lp]; exact hg)] at h4 ⊢
      simp only [Option.getD_some] at h4
      rw [h4]
    · rw [List.getElem?_eq_none (by omega), List.getElem?_eq_none (by rw [hs.lp]; omega)]
  rw [← e, toQ_pr hp.1]
/-- The prices sum to the budgets. -/
theorem sum_prices (hP : prF B V = some r) : sumF (priQ r.1) (goodsN V) = ((sumZ (fun i => B.getD i 0) B.length : Int) : Rat) := by
  obtain ⟨hv, hs⟩ := prF_ok hP
  have hE := hs.equi hv
  rw [sumF_Q, ← sumZ_Q]
  show sumQ (priQ r.1) (goodsN V) = sumQ (budQ B) B.length
  rw [← sumQ_congr fun i hi => hE.row i hi, sq_swap]
  exact (sumQ_congr fun g hg => hE.col g hg).symm
end

/- Multiplied uses and budgets: laws of MarketUnits. -/

section
variable {n k : Nat} {b : Nat → Rat} {u : Nat → Nat → Rat} {p : Nat → Rat} {s : Nat → Nat → Rat}
theorem Equi.useMul (h : Equi n k b u p s) {c : Nat → Rat} (hc : ∀ i, i < n → 0 < c i) : Equi n k b (fun i g => c i * u i g) p s := by
  refine ⟨h.pos, h.nn, h.row, h.col, fun i g hi hg hs x hx => ?_⟩
  have h1 := Rat.mul_le_mul_of_nonneg_left (c := c i) (h.want i g hi hg hs x hx) (Rat.le_of_lt (hc i hi))
  have e1 : c i * u i x * p g = c i * (u i x * p g) := by grind
  have e2 : c i * u i g * p x = c i * (u i g * p x) := by grind
  rw [e1, e2]
  exact h1
theorem Equi.congrU {u' : Nat → Nat → Rat} (h : Equi n k b u p s) (hu : ∀ i g, i < n → g < k → u i g = u' i g) : Equi n k b u' p s := by
  refine ⟨h.pos, h.nn, h.row, h.col, fun i g hi hg hs x hx => ?_⟩
  rw [← hu i g hi hg, ← hu i x hi hx]
  exact h.want i g hi hg hs x hx
theorem Equi.budMul (h : Equi n k b u p s) {c : Rat} (hc : 0 < c) : Equi n k (fun i => c * b i) u (fun g => c * p g) (fun i g => c * s i g) where
  pos := fun g hg => Rat.mul_pos hc (h.pos g hg)
  nn := fun i g hi hg => Rat.mul_nonneg (Rat.le_of_lt hc) (h.nn i g hi hg)
  row := fun i hi => by rw [sumQ_mul, h.row i hi]
  col := fun g hg => by rw [sumQ_mul, h.col g hg]
  want := fun i g hi hg hs x hx => by
    have h1 := h.want i g hi hg (fun h0 => hs (by rw [h0, Rat.mul_zero])) x hx
    have h2 := Rat.mul_le_mul_of_nonneg_left (c := c) h1 (Rat.le_of_lt hc)
    have e1 : u i x * (c * p g) = c * (u i x * p g) := by grind
    have e2 : u i g * (c * p x) = c * (u i g * p x) := by grind
    rw [e1, e2]
    exact h2
end
theorem rowV_setM {V : List (List Int)} {p i : Nat} {r : List Int} (hp : p < V.length) : rowV (V.set p r) i = if p = i then r else rowV V i := by
  unfold rowV
  rw [List.getD_eq_getElem?_getD, List.getElem?_set]
  by_cases e : p = i
  · subst e; rw [if_pos rfl, if_pos hp, if_pos rfl]; rfl
  · rw [if_neg e, if_neg e, List.getD_eq_getElem?_getD]
theorem prices_eq {r r' : List Rat} {k : Nat} (hl : r.length = k) (hl' : r'.length = k) (h : ∀ g, g < k → priQ r g = priQ r' g) : r = r' := by
  apply List.ext_getElem?
  intro g
  by_cases hg : g < k
  · have h4 := h g hg
    unfold priQ at h4
    rw [List.getD_eq_getElem?_getD, List.getD_eq_getElem?_getD] at h4
    rw [List.getElem?_eq_getElem (by omega), List.getElem?_eq_getElem (by omega)] at h4 ⊢
    simp only [Option.getD_some] at h4
    rw [h4]
  · rw [List.getElem?_eq_none (by omega), List.getElem?_eq_none (by omega)]
section
variable {B : List Int} {V : List (List Int)} {r r' : List Rat × List (List Rat)}
theorem goodsN_set {p : Nat} {c : Int} (hp : p < V.length) : goodsN (V.set p ((rowV V p).map (c * ·))) = goodsN V := by
  show (rowV (V.set p ((rowV V p).map (c * ·))) 0).length = (rowV V 0).length
  rw [rowV_setM hp]
  by_cases e : p = 0
  · subst e; rw [if_pos rfl, List.length_map]
  · rw [if_neg e]
theorem useN_set {p : Nat} {c : Int} (hp : p < V.length) (i g : Nat) : useN (V.set p ((rowV V p).map (c * ·))) i g = (if p = i then c else 1) * useN V i g := by
  unfold useN
  rw [rowV_setM hp]
  by_cases e : p = i
  · subst e
    rw [if_pos rfl, if_pos rfl, List.getD_eq_getElem?_getD, List.getD_eq_getElem?_getD, List.getElem?_map]
    cases (rowV V p)[g]? <;> simp
  · rw [if_neg e, if_neg e, Int.one_mul]
/-- A buyer's uses multiplied: the prices stay. -/
theorem units_use (h : prF B V = some r) {p : Nat} (hp : p < B.length) {c : Int} (hc : 1 ≤ c) (h' : prF B (V.set p ((rowV V p).map (c * ·))) = some r') : r'.1 = r.1 := by
  obtain ⟨hv, hs⟩ := prF_ok h
  obtain ⟨hv', hs'⟩ := prF_ok h'
  have hpV : p < V.length := by have := (validM_iff.1 hv).1.2.2.2; omega
  obtain ⟨hm, _, _⟩ := mkOk_of hv'
  have hE' := hs'.equi hv'
  have hl' := hs'.lp
  rw [goodsN_set hpV] at hE' hm hl'
  have hE := ((hs.equi hv).useMul (c := fun i => (((if p = i then c else 1) : Int) : Rat)) (fun i _ => by
    have : (0 : Int) < if p = i then c else 1 := by split <;> omega
    exact_mod_cast this)).congrU (u' := useQ (V.set p ((rowV V p).map (c * ·)))) (fun i g _ _ => by
      unfold useQ
      rw [useN_set hpV, Rat.intCast_mul])
  exact prices_eq hl' hs.lp fun g hg => hE'.unique hE hm.un hm.us g hg
/-- All budgets multiplied: so are the prices. -/
theorem units_bud (h : prF B V = some r) {c : Int} (hc : 1 ≤ c) (h' : prF (B.map (· * c)) V = some r') : r'.1.length = r.1.length ∧ ∀ (g : Nat) (q q' : Rat), r.1[g]? = some q → r'.1[g]? = some q' → q' = q * (c : Rat) := by
  obtain ⟨hv, hs⟩ := prF_ok h
  obtain ⟨hv', hs'⟩ := prF_ok h'
  obtain ⟨hm, _, _⟩ := mkOk_of hv'
  have hE' := hs'.equi hv'
  rw [List.length_map] at hE' hm
  have hE := ((hs.equi hv).budMul (c := (c : Rat)) (by exact_mod_cast (show (0 : Int) < c by omega))).congr (b' := budQ (B.map (· * c))) (fun i hi => by
    unfold budQ
    rw [List.getD_eq_getElem?_getD, List.getD_eq_getElem?_getD, List.getElem?_map, List.getElem?_eq_getElem hi]
    simp only [Option.map_some, Option.getD_some]
    rw [Rat.intCast_mul, Rat.mul_comm])
  refine ⟨by rw [hs'.lp, hs.lp], fun g q q' hq hq' => ?_⟩
  have hg : g < goodsN V := by rw [← hs.lp]; exact (List.getElem?_eq_some_iff.1 hq).1
  have h1 := hE'.unique hE hm.un hm.us g hg
  unfold priQ at h1
  rw [List.getD_eq_getElem?_getD, List.getD_eq_getElem?_getD, hq, hq'] at h1
  simp only [Option.getD_some] at h1
  rw [h1, Rat.mul_comm]
end

/- The worth of what a buyer gets: laws. -/

/-- A worth, and its size. -/
def WoS (q : Rat) : Prop := 1 ≤ q.num ∧ q.num ≤ 480000 ∧ (q.den : Int) ≤ 48000
section
variable {B : List Int} {V : List (List Int)} {r : List Rat × List (List Rat)}
theorem wor_form (hv : validM B V = true) (h : SolR B V B.length (goodsN V) r) {i : Nat} (hi : i < B.length) : ∃ g0, g0 < goodsN V ∧ 0 < useN V i g0 ∧ worTo V r.1 r.2 i (goodsN V) * priQ r.1 g0 = useQ V i g0 * budQ B i ∧
    ∀ g, g < goodsN V → useQ V i g * priQ r.1 g0 ≤ useQ V i g0 * priQ r.1 g := by
  obtain ⟨hm, _, hu⟩ := mkOk_of hv
  have hE := h.equi hv
  have hex : ∃ g0, g0 < goodsN V ∧ spd r.2 i g0 ≠ 0 := by
    by_cases hx : ∃ g0, g0 < goodsN V ∧ spd r.2 i g0 ≠ 0
    · exact hx
    · exfalso
      have h1 := hE.row i hi
      rw [sumQ_zero fun g hg => by
        by_cases h2 : spd r.2 i g = 0
        · exact h2
        · exact absurd ⟨g, hg, h2⟩ hx] at h1
      have := hm.bp i hi
      grind
  obtain ⟨g0, hg0, hs0⟩ := hex
  have hp0 := hE.pos g0 hg0
  have hu0 := hE.use hm.us hi hg0 hs0
  have hw0 := hE.want i g0 hi hg0 hs0
  refine ⟨g0, hg0, ?_, ?_, hw0⟩
  · unfold useQ at hu0
    exact_mod_cast hu0
  · unfold worTo
    rw [← sq_mulr]
    have e : ∀ g, g < goodsN V → worQ V r.1 r.2 i g * priQ r.1 g0 = useQ V i g0 * spd r.2 i g := fun g hg => by
      unfold worQ
      have hp := hE.pos g hg
      by_cases h2 : spd r.2 i g = 0
      · rw [h2, Rat.mul_zero, Rat.div_def, Rat.zero_mul, Rat.zero_mul, Rat.mul_zero]
      · have h3 := hE.want i g hi hg h2 g0 hg0
        have h4 := hw0 g hg
        have h5 : useQ V i g * priQ r.1 g0 = useQ V i g0 * priQ r.1 g := Rat.le_antisymm h4 h3
        have hne : priQ r.1 g ≠ 0 := by grind
        generalize useQ V i g = a at *
        generalize useQ V i g0 = a0 at *
        generalize priQ r.1 g = pg at *
        generalize priQ r.1 g0 = pg0 at *
        generalize spd r.2 i g = s at *
        grind
    rw [sumQ_congr e, sumQ_mul]
    show useQ V i g0 * sumQ (spd r.2 i) (goodsN V) = _
    rw [hE.row i hi]
theorem fair_ge (hv : validM B V = true) (h : SolR B V B.length (goodsN V) r) {i g : Nat} (hi : i < B.length) (hg : g < goodsN V) : useQ V i g * budQ B i ≤ worTo V r.1 r.2 i (goodsN V) * priQ r.1 g := by
  obtain ⟨g0, hg0, _, e, hw⟩ := wor_form hv h hi
  obtain ⟨hm, _, _⟩ := mkOk_of hv
  have hE := h.equi hv
  have hp0 := hE.pos g0 hg0
  have h1 := hw g hg
  have hb := hm.bp i hi
  have h2 := Rat.mul_le_mul_of_nonneg_left (c := budQ B i) h1 (Rat.le_of_lt hb)
  refine Rat.le_of_mul_le_mul_right (c := priQ r.1 g0) ?_ hp0
  generalize worTo V r.1 r.2 i (goodsN V) = W at *
  generalize useQ V i g = a at *
  generalize useQ V i g0 = a0 at *
  generalize priQ r.1 g = pg at *
  generalize priQ r.1 g0 = pg0 at *
  generalize budQ B i = b at *
  have e2 : W * pg * pg0 = b * (a0 * pg) := by grind
  rw [e2]
  have e3 : a * b * pg0 = b * (a * pg0) := by grind
  rw [e3]
  exact h2
theorem fair_sum (hv : validM B V = true) (h : SolR B V B.length (goodsN V) r) {i : Nat} (hi : i < B.length) : sumQ (useQ V i) (goodsN V) * budQ B i ≤ worTo V r.1 r.2 i (goodsN V) * sumQ (budQ B) B.length := by
  have hE := h.equi hv
  have e : sumQ (budQ B) B.length = sumQ (priQ r.1) (goodsN V) := by
    rw [← sumQ_congr fun i hi => hE.row i hi, sq_swap]
    exact sumQ_congr fun g hg => hE.col g hg
  rw [e, ← sumQ_mul, ← sq_mulr]
  exact sq_mono fun g hg => fair_ge hv h hi hg
theorem fair_sm (hv : validM B V = true) (h : SolR B V B.length (goodsN V) r) {i : Nat} (hi : i < B.length) : WoS (worTo V r.1 r.2 i (goodsN V)) := by
  obtain ⟨g0, hg0, hu0, e, _⟩ := wor_form hv h hi
  have hE := h.equi hv
  have hp0 := hE.pos g0 hg0
  have hP := pri_sm h hg0
  have hub := (mkOk_of hv).2.2 i g0
  obtain ⟨⟨a1, a2, a3, a4⟩, b1, b2, b3⟩ := validM_iff.1 hv
  have hbi := a3 (B.getD i 0) (by
    rw [List.getD_eq_getElem?_getD, List.getElem?_eq_getElem hi]
    exact List.getElem_mem _)
  unfold useQ budQ at e
  generalize worTo V r.1 r.2 i (goodsN V) = W at *
  generalize useN V i g0 = u at *
  generalize B.getD i 0 = b at *
  generalize priQ r.1 g0 = p at *
  obtain ⟨p1, p2, p3⟩ := hP
  have hpd0 := den_pos p
  have eW : W = ((u * b * p.den : Int) : Rat) / ((p.num : Int) : Rat) := by
    rw [Rat.intCast_mul, Rat.intCast_mul]
    have hp' := num_den_of p
    have a2 : ((p.den : Int) : Rat) ≠ 0 := rat_ne (by omega)
    have a3 : (p.num : Rat) ≠ 0 := rat_ne (by omega)
    generalize ((p.den : Int) : Rat) = pd at *
    generalize (p.num : Rat) = pn at *
    subst hp'
    grind
  have h1 : 1 * 1 ≤ u * b ∧ u * b ≤ 20 * 20 := ⟨Int.mul_le_mul (by omega) hbi.1 (by omega) (by omega), Int.mul_le_mul hub.2 hbi.2 (by omega) (by omega)⟩
  have h2 : 1 * 1 ≤ u * b * (p.den : Int) ∧ u * b * (p.den : Int) ≤ 400 * 1200 := ⟨Int.mul_le_mul (by omega) (by omega) (by omega) (by omega), Int.mul_le_mul (by omega) p3 (by omega) (by omega)⟩
  have h4 := frac_bd (by omega) eW
  have h5 := frac_nn (by omega) (by omega) eW
  have h6 : W.num ≠ 0 := fun h0 => by
    have hz := Rat.num_eq_zero.1 h0
    rw [hz, Rat.zero_mul] at e
    have : (u : Rat) * (b : Rat) ≠ 0 := by
      rw [← Rat.intCast_mul]
      exact rat_ne (by omega)
    exact this e.symm
  unfold WoS
  omega
end
theorem mulq_bd {p q : Rat} (hp : 0 ≤ p.num) (hq : 0 ≤ q.num) : 0 ≤ (p * q).num ∧ (p * q).num ≤ p.num * q.num ∧ ((p * q).den : Int) ≤ p.den * q.den := by
  have hpd := den_pos p
  have hqd := den_pos q
  have h0 : 0 < (p.den : Int) * q.den := Int.mul_pos hpd hqd
  have e : p * q = ((p.num * q.num : Int) : Rat) / (((p.den : Int) * q.den : Int) : Rat) := by
    rw [Rat.intCast_mul, Rat.intCast_mul]
    have hp' := num_den_of p
    have hq' := num_den_of q
    have a1 : ((p.den : Int) : Rat) ≠ 0 := rat_ne (by omega)
    have a2 : ((q.den : Int) : Rat) ≠ 0 := rat_ne (by omega)
    generalize ((p.den : Int) : Rat) = pd at *
    generalize ((q.den : Int) : Rat) = qd at *
    generalize (p.num : Rat) = pn at *
    generalize (q.num : Rat) = qn at *
    subst hp'
    subst hq'
    grind
  have h1 : 0 ≤ p.num * q.num := Int.mul_nonneg hp hq
  have h4 := frac_bd h0 e
  have h5 := frac_nn h0 h1 e
  generalize p.num * q.num = a at *
  generalize (p.den : Int) * q.den = c at *
  omega
theorem wmul_sm {p q : Rat} (hp : WoS p) (hq : PrS q) : (0 ≤ (p * q).num ∧ (p * q).num ≤ 23040000000) ∧ ((p * q).den : Int) ≤ 57600000 := by
  obtain ⟨p1, p2, p3⟩ := hp
  obtain ⟨q1, q2, q3⟩ := hq
  obtain ⟨h1, h2, h3⟩ := mulq_bd (p := p) (q := q) (by omega) (by omega)
  have hpd := den_pos p
  have hqd := den_pos q
  have a1 : p.num * q.num ≤ 480000 * 48000 := Int.mul_le_mul p2 q2 (by omega) (by omega)
  have a2 : (p.den : Int) * q.den ≤ 48000 * 1200 := Int.mul_le_mul p3 q3 (by omega) (by omega)
  omega
theorem wmul_use (p q : Rat) (w : World) (hp : WoS p) (hq : PrS q) : Calls Try.prog 19 #[.agg #[.int .i64 p.num, .int .i64 (p.den : Int)], .agg #[.int .i64 q.num, .int .i64 (q.den : Int)]] w fun e w' => e = .returned (.agg #[.int .i64 (p * q).num, .int .i64 ((p * q).den : Int)]) ∧ Below w.heap.size w w' := by
  obtain ⟨p1, p2, p3⟩ := hp
  obtain ⟨q1, q2, q3⟩ := hq
  have hpd := den_pos p
  have hqd := den_pos q
  have a0 : 0 ≤ p.num * q.num := Int.mul_nonneg (by omega) (by omega)
  have a1 : p.num * q.num ≤ 480000 * 48000 := Int.mul_le_mul p2 q2 (by omega) (by omega)
  have a2 : (p.den : Int) * q.den ≤ 48000 * 1200 := Int.mul_le_mul p3 q3 (by omega) (by omega)
  exact rmul_raw p q w (by omega) (by omega) (by omega)
theorem wall_use (p : Rat) (z : Int) (w : World) (hp : WoS p) (hz : 0 ≤ z ∧ z ≤ 1000) : (Calls Try.prog 19 #[.agg #[.int .i64 p.num, .int .i64 (p.den : Int)], .agg #[.int .i64 z, .int .i64 1]] w fun e w' => e = .returned (.agg #[.int .i64 (p * (z : Rat)).num, .int .i64 ((p * (z : Rat)).den : Int)]) ∧ Below w.heap.size w w') ∧
    (0 ≤ (p * (z : Rat)).num ∧ (p * (z : Rat)).num ≤ 480000000) ∧ ((p * (z : Rat)).den : Int) ≤ 48000 := by
  obtain ⟨p1, p2, p3⟩ := hp
  obtain ⟨h1, h2, h3⟩ := mulq_bd (p := p) (q := (z : Rat)) (by omega) (by rw [Rat.num_intCast]; omega)
  rw [Rat.num_intCast] at h2
  rw [Rat.den_intCast] at h3
  have hpd := den_pos p
  have a0 : 0 ≤ p.num * z := Int.mul_nonneg (by omega) hz.1
  have a1 : p.num * z ≤ 480000 * 1000 := Int.mul_le_mul p2 hz.2 hz.1 (by omega)
  have h4 := rmul_raw p (z : Rat) w (by rw [Rat.num_intCast]; omega) (by rw [Rat.num_intCast]; omega) (by rw [Rat.den_intCast]; omega)
  unfold fr at h4
  rw [Rat.num_intCast, Rat.den_intCast] at h4
  exact ⟨h4, ⟨h1, by omega⟩, by omega⟩
theorem wless_use (x : Rat) (z : Int) (w : World) (h1 : (0 ≤ x.num ∧ x.num ≤ 23040000000) ∧ (x.den : Int) ≤ 57600000) (hz : 0 ≤ z ∧ z ≤ 10000) (h : ((z : Int) : Rat) ≤ x) : Calls Try.prog 22 #[.agg #[.int .i64 x.num, .int .i64 (x.den : Int)], .agg #[.int .i64 z, .int .i64 1]] w fun e w' => e = .returned (.bool false) ∧ Below w.heap.size w w' := by
  have hd := den_pos x
  have a0 : 0 ≤ z * (x.den : Int) := Int.mul_nonneg hz.1 (by omega)
  have a1 : z * (x.den : Int) ≤ 10000 * 57600000 := Int.mul_le_mul hz.2 h1.2 (by omega) (by omega)
  have h4 := rless_any x (z : Rat) w (by rw [Rat.den_intCast]; omega) (by rw [Rat.den_intCast]; omega) (by rw [Rat.num_intCast]; omega) (by rw [Rat.num_intCast]; omega)
  unfold fr at h4
  rw [Rat.num_intCast, Rat.den_intCast, decide_eq_false (by grind)] at h4
  exact h4

/- A buyer split into two: laws of MarketSplit. -/

section
variable {n k : Nat} {b b' : Nat → Rat} {u u' : Nat → Nat → Rat} {p : Nat → Rat} {s : Nat → Nat → Rat}
/-- The last buyer joined to the first. -/
def joinS (n : Nat) (s : Nat → Nat → Rat) (i g : Nat) : Rat := if i = 0 then s 0 g + s n g else s i g
theorem joinS_sum (hn : 1 ≤ n) (g : Nat) : sumQ (fun i => joinS n s i g) n = sumQ (fun i => s i g) (n + 1) := by
  have h : ∀ m, 1 ≤ m → sumQ (fun i => joinS n s i g) m = sumQ (fun i => s i g) m + s n g := by
    intro m hm
    induction m with
    | zero => omega
    | succ m ih =>
      rcases Nat.eq_zero_or_pos m with h0 | h0
      · subst h0
        show (0 : Rat) + joinS n s 0 g = 0 + s 0 g + s n g
        unfold joinS
        rw [if_pos rfl]
        grind
      · simp only [sumQ]
        rw [ih h0]
        have e : joinS n s m g = s m g := by unfold joinS; rw [if_neg (by omega)]
        rw [e]
        grind
  rw [h n hn]
  rfl
theorem Equi.join (h : Equi (n + 1) k b' u' p s) (hn : 1 ≤ n) (hu : ∀ i g, i < n → g < k → u' i g = u i g) (hu0 : ∀ g, g < k → u' n g = u 0 g) (hb0 : b' 0 + b' n = b 0) (hb : ∀ i, 0 < i → i < n → b' i = b i) : Equi n k b u p (joinS n s) where
  pos := h.pos
  nn := fun i g hi hg => by
    unfold joinS
    split
    · exact Rat.add_nonneg (h.nn 0 g (by omega) hg) (h.nn n g (by omega) hg)
    · exact h.nn i g (by omega) hg
  row := fun i hi => by
    by_cases h0 : i = 0
    · subst h0
      have e : sumQ (joinS n s 0) k = sumQ (s 0) k + sumQ (s n) k := by
        have e1 : ∀ g, joinS n s 0 g = s 0 g + s n g := fun g => by unfold joinS; rw [if_pos rfl]
        clear hu hu0 h
        induction k with
        | zero => show (0 : Rat) = 0 + 0; grind
        | succ k ih =>
          simp only [sumQ]
          rw [ih, e1]
          grind
      rw [e, h.row 0 (by omega), h.row n (by omega), hb0]
    · have e : sumQ (joinS n s i) k = sumQ (s i) k := sumQ_congr fun g _ => by unfold joinS; rw [if_neg h0]
      rw [e, h.row i (by omega), hb i (by omega) hi]
  col := fun g hg => by rw [joinS_sum hn]; exact h.col g hg
  want := fun i g hi hg hs x hx => by
    unfold joinS at hs
    by_cases h0 : i = 0
    · subst h0
      rw [if_pos rfl] at hs
      by_cases h1 : s 0 g = 0
      · have h2 : s n g ≠ 0 := fun h3 => hs (by rw [h1, h3]; grind)
        have h4 := h.want n g (by omega) hg h2 x hx
        rwa [hu0 x hx, hu0 g hg] at h4
      · have h4 := h.want 0 g (by omega) hg h1 x hx
        rwa [hu 0 x hi hx, hu 0 g hi hg] at h4
    · rw [if_neg h0] at hs
      have h4 := h.want i g (by omega) hg hs x hx
      rwa [hu i x hi hx, hu i g hi hg] at h4
end
/-- The market with its first buyer split. -/
def splB (B : List Int) (q : Int) : List Int := B.set 0 (B.getD 0 0 - q) ++ [q]
def splV (V : List (List Int)) : List (List Int) := V ++ [rowV V 0]
section
variable {B : List Int} {V : List (List Int)} {r r' : List Rat × List (List Rat)} {q : Int}
theorem splV_row (_ : 1 ≤ V.length) (i : Nat) (hi : i ≤ V.length) : rowV (splV V) i = if i = V.length then rowV V 0 else rowV V i := by
  show (V ++ [rowV V 0]).getD i [] = _
  rw [List.getD_eq_getElem?_getD]
  by_cases e : i = V.length
  · subst e
    rw [if_pos rfl, List.getElem?_append_right (Nat.le_refl _), Nat.sub_self]; rfl
  · rw [if_neg e, List.getElem?_append_left (by omega)]
    show _ = V.getD i []
    rw [List.getD_eq_getElem?_getD]
theorem splV_goods (hV : 1 ≤ V.length) : goodsN (splV V) = goodsN V := by
  show (rowV (splV V) 0).length = (rowV V 0).length
  rw [splV_row hV 0 (by omega), if_neg (by omega)]
theorem splB_length : (splB B q).length = B.length + 1 := by simp [splB]
theorem splB_get {i : Nat} (hB : 1 ≤ B.length) (hi : i ≤ B.length) : (splB B q).getD i 0 = if i = B.length then q else if i = 0 then B.getD 0 0 - q else B.getD i 0 := by
  unfold splB
  rw [List.getD_eq_getElem?_getD]
  by_cases e : i = B.length
  · subst e
    rw [if_pos rfl, List.getElem?_append_right (by simp), List.length_set, Nat.sub_self]; rfl
  · rw [if_neg e, List.getElem?_append_left (by simp; omega), List.getElem?_set]
    by_cases h0 : i = 0
    · subst h0
      rw [if_pos rfl, if_pos (by omega), if_pos rfl]; rfl
    · rw [if_neg (by omega), if_neg h0, List.getD_eq_getElem?_getD]
theorem spl_valid (hv : validM B V = true) (hn : B.length ≤ 2) (hq : 1 ≤ q ∧ q ≤ B.getD 0 0 - 1) : validM (splB B q) (splV V) = true := by
  obtain ⟨⟨a1, a2, a3, a4⟩, b1, b2, b3⟩ := validM_iff.1 hv
  have hB0 := a3 (B.getD 0 0) (by
    rw [List.getD_eq_getElem?_getD, List.getElem?_eq_getElem (by omega)]
    exact List.getElem_mem _)
  have hg := splV_goods (V := V) (by omega)
  refine validM_iff.2 ⟨⟨by rw [splB_length]; omega, by rw [splB_length]; omega, ?_, by rw [splB_length]; simp [splV, a4]⟩, by rw [hg]; exact b1, ?_, ?_⟩
  · intro x hx
    unfold splB at hx
    rcases List.mem_append.1 hx with h | h
    · rcases List.mem_or_eq_of_mem_set h with h2 | h2
      · exact a3 x h2
      · omega
    · simp at h
      omega
  · intro x hx
    rw [hg]
    unfold splV at hx
    rcases List.mem_append.1 hx with h | h
    · exact b2 x h
    · simp at h
      subst h
      exact b2 _ (List.mem_of_getElem? (rowV_some (by omega)))
  · intro g hgk
    rw [hg] at hgk
    have h1 := b3 g hgk
    unfold wanted at h1 ⊢
    unfold splV
    rw [List.any_append, h1]
    rfl
theorem spl_prices (h : prF B V = some r) (_ : 1 ≤ q ∧ q ≤ B.getD 0 0 - 1) (h' : prF (splB B q) (splV V) = some r') : r'.1 = r.1 := by
  obtain ⟨hv, hs⟩ := prF_ok h
  obtain ⟨hv', hs'⟩ := prF_ok h'
  obtain ⟨hm, _, _⟩ := mkOk_of hv
  obtain ⟨⟨a1, a2, a3, a4⟩, b1, b2, b3⟩ := validM_iff.1 hv
  have hE' := hs'.equi hv'
  have hl' := hs'.lp
  rw [splV_goods (by omega)] at hE' hl'
  rw [splB_length] at hE'
  have hJ := hE'.join (b := budQ B) (u := useQ V) a1
    (fun i g hi _ => by unfold useQ useN; rw [splV_row (by omega) i (by omega), if_neg (by omega)])
    (fun g _ => by unfold useQ useN; rw [splV_row (by omega) B.length (by omega), if_pos a4.symm])
    (by
      unfold budQ
      rw [splB_get a1 (by omega), splB_get a1 (Nat.le_refl _), if_neg (by omega), if_pos rfl, if_pos rfl, ← Rat.intCast_add]
      congr 1
      omega)
    (fun i h0 hi => by unfold budQ; rw [splB_get a1 (by omega), if_neg (by omega), if_neg (by omega)])
  exact prices_eq hl' hs.lp fun g hg => hJ.unique (hs.equi hv) hm.un hm.us g hg
theorem wor_ratio {W W' b b' : Rat} {uu pp : Nat → Rat} {k g0 g1 : Nat} (hp : ∀ g, g < k → 0 < pp g) (h0 : g0 < k) (h1 : g1 < k) (e0 : W * pp g0 = uu g0 * b) (e1 : W' * pp g1 = uu g1 * b')
    (m0 : ∀ g, g < k → uu g * pp g0 ≤ uu g0 * pp g) (m1 : ∀ g, g < k → uu g * pp g1 ≤ uu g1 * pp g) : W * b' = W' * b := by
  have hx : uu g1 * pp g0 = uu g0 * pp g1 := Rat.le_antisymm (m0 g1 h1) (m1 g0 h0)
  have p0 := hp g0 h0
  have p1 := hp g1 h1
  have hne : pp g0 * pp g1 ≠ 0 := by
    have := Rat.mul_pos p0 p1
    grind
  have h2 : W * b' * (pp g0 * pp g1) = W' * b * (pp g0 * pp g1) := by
    have a1 : W * b' * (pp g0 * pp g1) = (W * pp g0) * (b' * pp g1) := by grind
    have a2 : W' * b * (pp g0 * pp g1) = (W' * pp g1) * (b * pp g0) := by grind
    rw [a1, a2, e0, e1]
    have a3 : uu g0 * b * (b' * pp g1) = b * b' * (uu g0 * pp g1) := by grind
    have a4 : uu g1 * b' * (b * pp g0) = b * b' * (uu g1 * pp g0) := by grind
    rw [a3, a4, hx]
  generalize pp g0 * pp g1 = z at *
  grind
/-- What others get is worth as much as before. -/
theorem spl_worth (h : prF B V = some r) (hq : 1 ≤ q ∧ q ≤ B.getD 0 0 - 1) (h' : prF (splB B q) (splV V) = some r') {i j : Nat} (hi : i < B.length) (hj : j ≤ B.length) (hji : j = i ∨ (j = B.length ∧ i = 0)) :
    worTo V r.1 r.2 i (goodsN V) * budQ (splB B q) j = worTo (splV V) r'.1 r'.2 j (goodsN V) * budQ B i := by
  obtain ⟨hv, hs⟩ := prF_ok h
  obtain ⟨hv', hs'⟩ := prF_ok h'
  obtain ⟨⟨a1, a2, a3, a4⟩, _, _⟩ := validM_iff.1 hv
  have hE := hs.equi hv
  have hg := splV_goods (V := V) (by omega)
  obtain ⟨g0, hg0, _, e0, m0⟩ := wor_form hv hs hi
  obtain ⟨g1, hg1, _, e1, m1⟩ := wor_form hv' hs' (i := j) (by rw [splB_length]; omega)
  have hpr := spl_prices h hq h'
  rw [hg] at e1 m1 hg1
  rw [hpr] at e1 m1 ⊢
  have hu : ∀ g, useQ (splV V) j g = useQ V i g := fun g => by
    unfold useQ useN
    rw [splV_row (by omega) j (by omega)]
    rcases hji with rfl | ⟨rfl, rfl⟩
    · rw [if_neg (by omega)]
    · rw [if_pos a4.symm]
  rw [hu] at e1
  exact wor_ratio (uu := useQ V i) (pp := priQ r.1) (fun g hg => hE.pos g hg) hg0 hg1 e0 e1 m0 fun g hg => by
    have := m1 g hg
    rwa [hu, hu] at this
theorem cancel_r {x y z : Rat} (hz : 0 < z) (h : x * z = y * z) : x = y := by
  have hne : z ≠ 0 := by grind
  grind
theorem spl_other (h : prF B V = some r) (hq : 1 ≤ q ∧ q ≤ B.getD 0 0 - 1) (h' : prF (splB B q) (splV V) = some r') {i : Nat} (h0 : 0 < i) (hi : i < B.length) : worTo (splV V) r'.1 r'.2 i (goodsN V) = worTo V r.1 r.2 i (goodsN V) := by
  have h1 := spl_worth h hq h' hi (Nat.le_of_lt hi) (.inl rfl)
  obtain ⟨hv, _⟩ := prF_ok h
  have hb := (mkOk_of hv).1.bp i hi
  have e : budQ (splB B q) i = budQ B i := by
    unfold budQ
    rw [splB_get (by omega) (by omega), if_neg (by omega), if_neg (by omega)]
  rw [e] at h1
  exact (cancel_r hb h1).symm
theorem spl_sum (h : prF B V = some r) (hq : 1 ≤ q ∧ q ≤ B.getD 0 0 - 1) (h' : prF (splB B q) (splV V) = some r') : worTo (splV V) r'.1 r'.2 0 (goodsN V) + worTo (splV V) r'.1 r'.2 B.length (goodsN V) = worTo V r.1 r.2 0 (goodsN V) := by
  obtain ⟨hv, _⟩ := prF_ok h
  have hB := (validM_iff.1 hv).1.1
  have h1 := spl_worth h hq h' (i := 0) (j := 0) (by omega) (by omega) (.inl rfl)
  have h2 := spl_worth h hq h' (i := 0) (j := B.length) (by omega) (Nat.le_refl _) (.inr ⟨rfl, rfl⟩)
  have hb := (mkOk_of hv).1.bp 0 (by omega)
  have e : budQ (splB B q) 0 + budQ (splB B q) B.length = budQ B 0 := by
    unfold budQ
    rw [splB_get (by omega) (by omega), splB_get (by omega) (Nat.le_refl _), if_neg (by omega), if_pos rfl, if_pos rfl, ← Rat.intCast_add]
    congr 1
    omega
  generalize worTo (splV V) r'.1 r'.2 0 (goodsN V) = y0 at *
  generalize worTo (splV V) r'.1 r'.2 B.length (goodsN V) = yn at *
  generalize worTo V r.1 r.2 0 (goodsN V) = w0 at *
  refine cancel_r hb ?_
  rw [Rat.add_mul, ← h1, ← h2, ← Rat.mul_add, e]
end

/- A number of a buyer turned in what Of has made. -/

theorem idxM_of (x : Int) {k : Int} (hk : 1 ≤ k) (hk2 : k ≤ 1000) : ∃ p : Nat, (p : Int) < k ∧ wrap64 ((IntKind.u64.wrap x).tmod k) = (p : Int) := by
  have h0 : 0 ≤ IntKind.u64.wrap x := by
    show 0 ≤ x % 2 ^ 64
    exact Int.emod_nonneg _ (by decide)
  have h1 := Int.tmod_nonneg k h0
  have h2 := Int.tmod_lt_of_pos (IntKind.u64.wrap x) (show (0 : Int) < k by omega)
  generalize (IntKind.u64.wrap x).tmod k = r at *
  refine ⟨r.toNat, by omega, ?_⟩
  unfold wrap64
  go_num
theorem byM_of (x : Int) {k : Int} (hk : 1 ≤ k) (hk2 : k ≤ 1000) : ∃ c : Int, (1 ≤ c ∧ c ≤ k) ∧ wrap64 (1 + wrap64 ((IntKind.u64.wrap x).tmod k)) = c := by
  obtain ⟨p, hp, e⟩ := idxM_of x hk hk2
  rw [e]
  clear e
  have hr : 1 ≤ 1 + (p : Int) ∧ 1 + (p : Int) ≤ k := by omega
  generalize 1 + (p : Int) = r at *
  refine ⟨r, hr, ?_⟩
  unfold wrap64
  go_num
/-- The block of a row of numbers. -/
def RwB (w : World) (g m cp : Nat) (xs : List Int) : Prop := ∃ cur, Blk w g 3 cur ∧ cur.size = cp ∧ cur.toList.take m = xs.map (Value.int .i64)
theorem RwB.lt {w : World} {g m cp : Nat} {xs : List Int} (h : RwB w g m cp xs) : g < w.heap.size := by obtain ⟨cur, h, _⟩ := h; exact h.lt
theorem RwB.below {w w' : World} {g m cp : Nat} {xs : List Int} (h : RwB w g m cp xs) (hb : Below w.heap.size w w') : RwB w' g m cp xs := by
  obtain ⟨cur, hB, h1, h2⟩ := h
  exact ⟨cur, hB.below hb hB.lt, h1, h2⟩
theorem RwB.ints {w : World} {g m cp : Nat} {xs : List Int} (h : RwB w g m cp xs) : Ints w (some ⟨g, 0, none⟩) xs := by
  obtain ⟨cur, hB, _, ht⟩ := h
  intro i v hv
  rw [← ht] at hv
  have hv' : cur.toList[i]? = some v := by
    rw [List.getElem?_take] at hv
    split at hv
    · exact hv
    · cases hv
  exact hB.at_ i v hv'
theorem RwB.read {w : World} {g m cp : Nat} {xs : List Int} (h : RwB w g m cp xs) {k : Nat} {x : Int} (hx : xs[k]? = some x) : w.cell? ⟨g, k, none⟩ = some (.int .i64 x) := by
  obtain ⟨cur, hB, _, ht⟩ := h
  have hv : (cur.toList.take m)[k]? = some (.int .i64 x) := by rw [ht]; simp [hx]
  rw [List.getElem?_take] at hv
  split at hv
  · rw [hB.cell, ← Array.getElem?_toList]; exact hv
  · cases hv
theorem RwB.frozen {w : World} {g m cp : Nat} {xs : List Int} (h : RwB w g m cp xs) (k : Nat) : w.frozen? ⟨g, k, none⟩ = false := by obtain ⟨cur, hB, _⟩ := h; exact hB.frozen k
theorem RwB.set_ {w : World} {g m cp : Nat} {xs : List Int} (h : RwB w g m cp xs) (k : Nat) (y : Int) : RwB (w.setCell ⟨g, k, none⟩ (.int .i64 y)) g m cp (xs.set k y) := by
  obtain ⟨cur, hB, hs, ht⟩ := h
  refine ⟨_, hB.set_ k _, by simp [hs], ?_⟩
  rw [Array.toList_setIfInBounds, List.take_set, ht, List.map_set]
theorem rwB_own {w : World} {base n c : Nat} {A : Option Addr} {xs : List Int} (h : w.ownsRow base 3 1 (.slice A n c) n (xs.map (Value.int .i64))) (hn : 0 < n) (hl : xs.length = n) : ∃ g, A = some ⟨g, 0, none⟩ ∧ base ≤ g ∧ RwB w g n c xs := by
  rcases h.2 with ⟨h0, h1⟩ | ⟨g, cap', cur, hv, hb, hg, _, _, hsz, ht⟩
  · injection h0 with _ e2 _
    omega
  · injection hv with e1 _ e3
    subst e1; subst e3
    exact ⟨g, rfl, hb, cur, hg, by simpa using hsz, by simpa [hl] using ht⟩
theorem OfMem.rowB {w w2 : World} {A U : Option Addr} {n c q d b5 : Nat} {vs : List Value} {B : List Int} {V : List (List Int)} (h : OfMem w w2 A n c U q d b5 vs B V) (hB : B.take 6 = B) (hn : 0 < n) :
    ∃ g, A = some ⟨g, 0, none⟩ ∧ w.heap.size ≤ g ∧ g < b5 ∧ RwB w2 g n c B := by
  have h1 := h.bud
  have h2 := h.ln
  rw [hB] at h1 h2
  obtain ⟨g, rfl, hg, hR⟩ := rwB_own h1 hn h2.symm
  exact ⟨g, rfl, hg, h.blt _ rfl, hR⟩
/-- What Of has made, its budgets turned. -/
theorem OfMem.turned {w w2 w3 : World} {U : Option Addr} {g n c q d b5 : Nat} {vs : List Value} {B B' : List Int} {V : List (List Int)} (h : OfMem w w2 (some ⟨g, 0, none⟩) n c U q d b5 vs B V) (hb : Kept w2.heap.size [g] w2 w3) (hg : g < b5) (hR : RwB w3 g n c B') (hl : B'.length = n) :
    MktAt w3 (some ⟨g, 0, none⟩) n U q B' (ofV V) where
  hB := hl
  hV := h.lq.symm
  budgets := hR.ints
  uses := by
    have hne : ∀ {v : Value} {e size m : Nat} {xs : List Value}, w2.ownsRow b5 e size v m xs → w3.ownsRow b5 e size v m xs := by
      intro v e size m xs ho
      obtain ⟨h1, h2⟩ := ho
      refine ⟨h1, ?_⟩
      rcases h2 with h2 | ⟨g', cap, cur, hv, a1, a2, a3⟩
      · exact .inl h2
      · exact .inr ⟨g', cap, cur, hv, a1, (hb.block g' (lt_of_block a2) (by simp; omega)).trans a2, a3⟩
    exact ORows.mat ⟨h.rows.1, fun j os hj => by obtain ⟨A', c', h1, h2⟩ := h.rows.2.1 j os hj; exact ⟨A', c', h1, hne h2⟩, h.rows.2.2⟩ (hne h.use)

/- MarketFair: the walk. -/

theorem w64 {z : Int} (h : -1000000000000 ≤ z ∧ z ≤ 1000000000000) : wrap64 z = z := by
  unfold wrap64
  go_num
theorem sumZ_bd {f : Nat → Int} {m : Int} {n : Nat} (h : ∀ i, i < n → 0 ≤ f i ∧ f i ≤ m) : 0 ≤ sumZ f n ∧ sumZ f n ≤ m * n := by
  induction n with
  | zero => simp [sumZ]
  | succ n ih =>
    have h1 := ih fun i hi => h i (by omega)
    have h2 := h n (by omega)
    have e : m * ((n + 1 : Nat) : Int) = m * (n : Int) + m := by rw [Int.natCast_add, Int.mul_add]; simp
    rw [e]
    simp only [sumZ]
    omega
/-- Making a fraction's variable. -/
theorem al_frac7 {Q : Exit → Act → World → Prop} (o : Oper) (a : Act) (w' : World) (K : Act → World → Prop) (ho : isAl 37 o = true) (hK : K (a.put o.dst (ptrB w'.heap.size)) (w'.alloc (.cells #[.int .i64 0, .int .i64 0] 37))) : o.wp Try.prog a w' K Q := by
  unfold isAl at ho
  split at ho
  · rename_i t ht
    simp only [Bool.and_eq_true, beq_iff_eq] at ho
    obtain ⟨rfl, _⟩ := ho
    unfold Oper.wp execOp
    rw [ht]
    have hr : ∀ w : World, (newVar 37 (.agg #[.int .i64 0, .int .i64 0])).run Try.prog w = .ok ⟨w.heap.size, 0, none⟩ (w.alloc (.cells #[.int .i64 0, .int .i64 0] 37)) := fun w => by kernel_rfl
    simp [go_sem, Oper.upon]
    exact hK
  · cases ho
theorem run_eq_frac7 (p q : Rat) (w : World) : (binOp .eql 37 (.agg #[.int .i64 p.num, .int .i64 (p.den : Int)]) (.agg #[.int .i64 q.num, .int .i64 (q.den : Int)])).run Try.prog w = .ok (.bool (decide (p = q))) w := by
  have e0 : decide (p = q) = (decide (p.num = q.num) && decide ((p.den : Int) = (q.den : Int))) := by
    rw [Bool.eq_iff_iff]
    simp only [decide_eq_true_eq, Bool.and_eq_true]
    exact ⟨by rintro rfl; exact ⟨rfl, rfl⟩, fun h => Rat.ext h.1 (by omega)⟩
  rw [e0]
  by_cases h1 : p.num = q.num
  · by_cases h2 : (p.den : Int) = (q.den : Int)
    · simp only [h1, h2]; go_simp
    · simp only [h1]; go_simp
  · go_simp
theorem l4whole_use (n : Int) (w : World) : Calls Try.prog 20 #[.int .i64 n] w fun e w' => e = .returned (.agg #[.int .i64 n, .int .i64 1]) ∧ Below w.heap.size w w' :=
  (l4whole_any n w).mono fun _ _ h => ⟨h.1, h.2⟩
/-- Whether one of the first goods is as good as can be. -/
def besTo (V : List (List Int)) (P : List Rat) (W : Rat) (b : Int) (i : Nat) : Nat → Bool
  | 0 => false
  | g + 1 => besTo V P W b i g || decide (W * priQ P g = ((useN V i g * b : Int) : Rat))
theorem besTo_of {V : List (List Int)} {P : List Rat} {W : Rat} {b : Int} {i k g0 : Nat} (h0 : g0 < k) (h : W * priQ P g0 = ((useN V i g0 * b : Int) : Rat)) : besTo V P W b i k = true := by
  induction k with
  | zero => omega
  | succ k ih =>
    simp only [besTo, Bool.or_eq_true, decide_eq_true_eq]
    rcases Nat.lt_or_ge g0 k with h1 | h1
    · exact .inl (ih h1)
    · exact .inr (by rw [show k = g0 by omega]; exact h)
set_option maxRecDepth 100000 in
set_option maxHeartbeats 4000000 in
theorem law_mfair (A : Option Addr) (n c : Nat) (U : Option Addr) (m d : Nat) (B : List Int) (V : List (List Int)) (W : World) (hK : MktArg W A n c U m d B V) :
    Calls Try.prog 8 #[mktV A n c U m d] W fun e w' => e = .returned (.bool true) ∧ Below W.heap.size W w' := by
  have hC1 := Ch.start W A n c U m d
  obtain ⟨w1, hw1⟩ : ∃ w1, w1 = W.alloc (.cells #[.slice A n c, .slice U m d] 25) := ⟨_, rfl⟩
  rw [← hw1] at hC1
  have HK := Lib.hid hK
  have HC1 := Lib.hid hC1
  obtain ⟨m1, m2, _, _⟩ := hC1.1.at2
  clear hK hC1
  unfold mktV
  go_enter Try.func8, Try.ntmps8
  go_wp2_with fail
  rw [← hw1]
  clear hw1
  refine ((HK.out.below HC1.out.2).of).mono ?_
  rintro e w2 ⟨A2, n2, c2, U2, q2, d2, b2, vs2, rfl, hO2⟩
  have HC2 := Lib.hid (HC1.out.next hO2.below)
  have HO2 := Lib.hid hO2
  clear hO2 m1 m2
  go_wp2_with fail
  refine (of_prices HO2.out).mono ?_
  intro ev w3 hpost
  unfold PricesPost at hpost
  obtain ⟨hb3, hpost⟩ := hpost
  have HC3 := Lib.hid (HC2.out.next hb3)
  clear hb3
  obtain ⟨m1, m2, _, _⟩ := HC3.out.1.at2
  cases hp : prF B V with
  | none =>
    rw [hp] at hpost
    subst hpost
    have HP := Lib.hid hp
    clear hp
    go_wp2_with fail
    refine ((HK.out.below HC3.out.2).of).mono ?_
    rintro e w4 ⟨A4, n4, c4, U4, q4, d4, b4, vs4, rfl, hO4⟩
    have HC4 := Lib.hid (HC3.out.next hO4.below)
    have HO4 := Lib.hid hO4
    clear hO4 m1 m2
    go_wp2_with fail
    refine (of_worth HO4.out).mono ?_
    intro ev w5 hpost
    unfold WorthPost at hpost
    rw [HP.out] at hpost
    obtain ⟨hb5, rfl⟩ := hpost
    have HC5 := Lib.hid (HC4.out.next hb5)
    clear hb5
    go_wp2_with fail
    refine (l4awake_any _).mono ?_
    rintro e w6 ⟨rfl, hb6⟩
    have HC6 := Lib.hid (HC5.out.next hb6)
    clear hb6
    go_wp2_with fail
    go_ret
    exact ⟨rfl, HC6.out.2⟩
  | some r =>
    rw [hp] at hpost
    obtain ⟨PA, pc, rfl, hown3⟩ := hpost
    have hpr := prF_ok hp
    have hpl := hpr.2.lp
    have hg3 := (validM_iff.1 hpr.1).2.1
    have hn3 := (validM_iff.1 hpr.1).1
    have hnB := HK.out.mkt.hB
    obtain ⟨k, hk⟩ : ∃ k, k = goodsN V := ⟨_, rfl⟩
    rw [← hk] at hg3 hpl
    have hfr3 := Fracs.of_cells (At.of_own hown3)
    have HP := Lib.hid (And.intro hp (And.intro hpr (And.intro hpl (And.intro hk hn3))))
    have HF3 := Lib.hid hfr3
    rw [hpl]
    have hn13 : 1 ≤ n ∧ n ≤ 3 := by omega
    clear hp hpr hpl hk hown3 hfr3 hn3
    go_wp2_with fail
    refine ((HK.out.below HC3.out.2).of).mono ?_
    rintro e w4 ⟨A4, n4, c4, U4, q4, d4, b4, vs4, rfl, hO4⟩
    have HC4 := Lib.hid (HC3.out.next hO4.below)
    have HO4 := Lib.hid hO4
    have HF4 := Lib.hid (HF3.out.below hO4.below')
    clear hO4 m1 m2
    go_wp2_with fail
    refine (of_worth HO4.out).mono ?_
    intro ev w5 hpost
    unfold WorthPost at hpost
    rw [HP.out.1] at hpost
    obtain ⟨hb5, WA, wc5, rfl, hF5⟩ := hpost
    have HC5 := Lib.hid (HC4.out.next hb5)
    have HF5 := Lib.hid (And.intro (HF4.out.below hb5) hF5)
    obtain ⟨m1, m2, _, _⟩ := HC5.out.1.at2
    have HV := Lib.hid (HK.out.below HC5.out.2).valid
    rw [HP.out.2.1.1] at HV
    rw [hnB]
    clear hb5 hF5
    go_wp2_with fail
    refine HV.out.mono ?_
    rintro e w6 ⟨rfl, hb6⟩
    have HC6 := Lib.hid (HC5.out.next hb6)
    have HF6 := Lib.hid (And.intro (HF5.out.1.below hb6) (HF5.out.2.below hb6))
    clear hb6 m1 m2 HV
    obtain ⟨m1, m2, _, _⟩ := HC6.out.1.at2
    have hmV := HK.out.mkt.hV
    have hvl := (validM_iff.1 HP.out.2.1.1).1
    have HRP := Lib.hid (r4prices_any A n c U m d PA pc B V (r.1.map pr) w6 (HK.out.mkt.below HC6.out.2) (by omega) HF6.out.1 (by rw [List.length_map, HP.out.2.2.1]; omega) (prices_i64 HP.out.2.1.2.ps))
    have hpk : prsOk V (r.1.map pr) = true := by
      unfold prsOk
      rw [prices_okF HP.out.2.1.2.ps, List.length_map, decide_eq_true HP.out.2.1.2.lp]
      rfl
    rw [hpk, List.length_map, HP.out.2.2.1] at HRP
    clear hpk hvl
    go_wp2_with fail
    refine HRP.out.mono ?_
    rintro e w7 ⟨rfl, hb7⟩
    have HC7 := Lib.hid (HC6.out.next hb7)
    have HF7 := Lib.hid (And.intro (HF6.out.1.below hb7) (HF6.out.2.below hb7))
    clear hb7 m1 m2 HRP
    obtain ⟨m1, m2, _, _⟩ := HC7.out.1.at2
    obtain ⟨aB, hA, hAl, hcB⟩ := HK.out.mkt.budgets.some_ (by omega)
    have hbd : ∀ i, i < n → 0 ≤ B.getD i 0 ∧ B.getD i 0 ≤ 20 := fun i hi => by
      have := HP.out.2.2.2.2.2.2.1 (B.getD i 0) (by
        rw [List.getD_eq_getElem?_getD, List.getElem?_eq_getElem (by omega)]
        exact List.getElem_mem _)
      omega
    have hgB : ∀ i, i < n → B[i]? = some (B.getD i 0) := fun i hi => by
      rw [List.getD_eq_getElem?_getD, List.getElem?_eq_getElem (by omega)]; rfl
    have HB := Lib.hid (And.intro hAl (And.intro hcB (And.intro hbd (And.intro hgB hnB))))
    subst hA
    clear hAl hcB hbd hgB
    go_wp2_with fail
    clear m1 m2
    go_loopw [7, 65] (fun av iv wx => ∃ i : Nat, i ≤ n ∧ iv = .int .i64 i ∧ av = .int .i64 (sumZ (fun i => B.getD i 0) i) ∧ Below w7.heap.size w7 wx) (fun _ iv _ => n - (intOf iv).toNat)
    case atStart => exact ⟨0, Nat.zero_le _, rfl, rfl, Below.refl _ _⟩
    case round =>
      obtain ⟨i, hi, rfl, rfl, hbl⟩ := hrel
      have HR := Lib.hid hbl
      clear hbl
      by_cases hin : i < n
      · have hb7 := HC7.out.2.trans (HR.out.mono HC7.out.2.size)
        have hx := HB.out.2.1 i _ (HB.out.2.2.2.1 i hin)
        have c1 := (hb7.cell (lt_of_cell hx)).trans hx
        have hs := sumZ_bd (f := fun i => B.getD i 0) (m := 20) (n := i) (fun j hj => HB.out.2.2.1 j (by omega))
        have hb := HB.out.2.2.1 i hin
        have hnx : sumZ (fun i => B.getD i 0) (i + 1) = sumZ (fun i => B.getD i 0) i + B.getD i 0 := rfl
        generalize sumZ (fun i => B.getD i 0) i = s at *
        generalize B.getD i 0 = b at *
        have hw : wrap64 (s + b) = s + b := w64 (by omega)
        have HN := Lib.hid hnx
        clear hnx hx hb7
        go_wp2_with fail
        go_roundw
        case rel => exact ⟨i + 1, by omega, by go_num, by rw [HN.out], HR.out⟩
        case measure => simp [intOf]; omega
      · obtain rfl : n = i := by omega
        have HC8 := Lib.hid (And.intro (HC7.out.next HR.out) HR.out)
        obtain ⟨w8, rfl⟩ : ∃ w8 : World, w8 = wr := ⟨_, rfl⟩
        obtain ⟨m1, m2, _, _⟩ := HC8.out.1.1.at2
        have HF8 := Lib.hid (And.intro (HF7.out.1.below HR.out) (HF7.out.2.below HR.out))
        obtain ⟨all, hall⟩ : ∃ s, s = sumZ (fun i => B.getD i 0) n := ⟨_, rfl⟩
        have hab := sumZ_bd (f := fun i => B.getD i 0) (m := 20) (n := n) (fun j hj => HB.out.2.2.1 j (by omega))
        rw [← hall] at hab ⊢
        have HALL := Lib.hid hall
        clear hall
        go_wp2_with fail
        clear m1 m2
        go_loopw [76] (fun iv wx => ∃ i : Nat, i ≤ n ∧ iv = .int .i64 i ∧ Below w8.heap.size w8 wx) (fun iv _ => n - (intOf iv).toNat)
        case atStart => exact ⟨0, Nat.zero_le _, rfl, Below.refl _ _⟩
        case round =>
          obtain ⟨i, hi, rfl, hbl⟩ := hrel
          obtain ⟨wo, rfl⟩ : ∃ wo : World, wo = wr := ⟨_, rfl⟩
          have HR2 := Lib.hid hbl
          have HC9 := Lib.hid (HC8.out.1.next hbl)
          clear hbl
          by_cases hin : i < n
          · have hiB : i < B.length := by omega
            have hsm := fair_sm HP.out.2.1.1 HP.out.2.1.2 hiB
            have hgW : (worL V B.length (goodsN V) r)[i]? = some (worTo V r.1 r.2 i (goodsN V)) := by
              unfold worL
              rw [List.getElem?_map, List.getElem?_range hiB]; rfl
            obtain ⟨aW, hWA, _, hcW⟩ := (HF8.out.2.below HR2.out).some_ (by unfold worL; rw [List.length_map, List.length_range]; omega)
            subst hWA
            obtain ⟨v1, v2⟩ := hcW i _ hgW
            have hx := HB.out.2.1 i _ (HB.out.2.2.2.1 i hin)
            have c1 := (HC9.out.2.cell (lt_of_cell hx)).trans hx
            have hb := HB.out.2.2.1 i hin
            obtain ⟨Wi, hWi⟩ : ∃ q, q = worTo V r.1 r.2 i (goodsN V) := ⟨_, rfl⟩
            rw [← hWi] at hsm v1 v2
            obtain ⟨b, hbe⟩ : ∃ b, b = B.getD i 0 := ⟨_, rfl⟩
            rw [← hbe] at c1 hb
            have HWI := Lib.hid (And.intro hWi (And.intro hbe (And.intro v1 (And.intro v2 hsm))))
            obtain ⟨s1, s2, s3⟩ := hsm
            have hlow : lowB Wi.num Wi.den = true := by
              have hd := den_pos Wi
              unfold lowB
              rw [decide_eq_true (by omega), decide_eq_true (by omega), rat_lowest Wi]
              rfl
            have HLO := Lib.hid fun w' => rlowest_any Wi.num Wi.den w' (by omega) (by omega) (by omega)
            rw [hlow] at HLO
            have n1 : ¬ Wi.num < 1 := by omega
            have n2 : ¬ (1048576 : Int) < Wi.num := by omega
            have n3 : ¬ (1048576 : Int) < (Wi.den : Int) := by omega
            clear hgW hcW hx hWi hbe hlow s1 s2 s3
            go_wp2_with fail
            refine (HLO.out _).mono ?_
            rintro e w10 ⟨rfl, hb10⟩
            have HC10 := Lib.hid (And.intro (HC9.out.next hb10) (HR2.out.trans (hb10.mono HR2.out.size)))
            clear v1 v2 HLO
            have v1 := (hb10.cell (lt_of_cell HWI.out.2.2.1)).trans HWI.out.2.2.1
            have v2 := (hb10.cell (lt_of_cell HWI.out.2.2.2.1)).trans HWI.out.2.2.2.1
            obtain ⟨m1, m2, _, _⟩ := HC10.out.1.1.at2
            have HUM := Lib.hid (HK.out.mkt.uses.below HC10.out.1.2)
            obtain ⟨aU, hUA, _, hcU⟩ := HUM.out.some_ (by have := (validM_iff.1 HP.out.2.1.1).1.2.2.2; omega)
            subst hUA
            have hiV : i < V.length := by have := (validM_iff.1 HP.out.2.1.1).1.2.2.2; omega
            obtain ⟨aR0, cR, hcR, _, _, hIR⟩ := hcU i _ (rowV_some hiV)
            have hrl : (rowV V i).length = k := by rw [HP.out.2.2.2.1]; exact (mkOk_of HP.out.2.1.1).2.1 i hiB
            rw [hrl] at hcR
            obtain ⟨aR, rfl, _, hcI⟩ := hIR.some_ (by rw [hrl]; omega)
            have hug : ∀ g, g < k → 0 ≤ useN V i g ∧ useN V i g ≤ 20 := fun g _ => (mkOk_of HP.out.2.1.1).2.2 i g
            have hcu : ∀ g, g < k → w10.cell? (aR.add g) = some (.int .i64 (useN V i g)) := fun g hg => hcI g _ (by
              unfold useN
              rw [List.getD_eq_getElem?_getD, List.getElem?_eq_getElem (by omega)]; rfl)
            have l1 : (i : Int) < (m : Int) := by have := HK.out.mkt.hV; omega
            have HU := Lib.hid (And.intro hug hcu)
            clear hcU hIR hcI hrl hug hcu HUM hiV
            go_wp2_with fail
            clear hcR m1 m2 v1 v2
            have HV10 := Lib.hid (And.intro ((hb10.cell (lt_of_cell HWI.out.2.2.1)).trans HWI.out.2.2.1) ((hb10.cell (lt_of_cell HWI.out.2.2.2.1)).trans HWI.out.2.2.2.1))
            clear hb10
            go_loopw [12, 13, 117] (fun sv bv iv wx => ∃ g : Nat, g ≤ k ∧ iv = .int .i64 g ∧ sv = .int .i64 (sumZ (fun g => useN V i g) g) ∧ bv = .bool (besTo V r.1 Wi b i g) ∧ Below w10.heap.size w10 wx) (fun _ _ iv _ => k - (intOf iv).toNat)
            case atStart => exact ⟨0, Nat.zero_le _, rfl, rfl, rfl, Below.refl _ _⟩
            case round =>
              obtain ⟨g, hg, rfl, rfl, rfl, hbl⟩ := hrel
              obtain ⟨wi, rfl⟩ : ∃ wi : World, wi = wr := ⟨_, rfl⟩
              have HR3 := Lib.hid hbl
              clear hbl
              have hs := sumZ_bd (f := fun g => useN V i g) (m := 20) (n := g) (fun j hj => HU.out.1 j (by omega))
              by_cases hgk : g < k
              · have hgG : g < goodsN V := by rw [← HP.out.2.2.2.1]; exact hgk
                have hge := fair_ge HP.out.2.1.1 HP.out.2.1.2 hiB hgG
                have hps := pri_sm HP.out.2.1.2 hgG
                have hx := HU.out.2 g hgk
                have c2 := (HR3.out.cell (lt_of_cell hx)).trans hx
                have hu := HU.out.1 g hgk
                have hgp : r.1[g]? = some (priQ r.1 g) := by
                  unfold priQ
                  rw [List.getD_eq_getElem?_getD, List.getElem?_eq_getElem (by rw [HP.out.2.2.1]; exact hgk)]; rfl
                obtain ⟨aP, hPA, _, hcP⟩ := ((HF8.out.1.below HC10.out.2).below HR3.out).some_ (by rw [HP.out.2.2.1]; omega)
                subst hPA
                obtain ⟨p1, p2⟩ := hcP g _ hgp
                have v1 := (HR3.out.cell (lt_of_cell HV10.out.1)).trans HV10.out.1
                have v2 := (HR3.out.cell (lt_of_cell HV10.out.2)).trans HV10.out.2
                have hnx : sumZ (fun g => useN V i g) (g + 1) = sumZ (fun g => useN V i g) g + useN V i g := rfl
                have hbx : besTo V r.1 Wi b i (g + 1) = (besTo V r.1 Wi b i g || decide (Wi * priQ r.1 g = ((useN V i g * b : Int) : Rat))) := rfl
                have hubd : 0 ≤ useN V i g * b ∧ useN V i g * b ≤ 400 := by
                  have h1 := Int.mul_nonneg hu.1 hb.1
                  have h2 : useN V i g * b ≤ 20 * 20 := Int.mul_le_mul hu.2 hb.2 hb.1 (by omega)
                  omega
                have hge' : ((useN V i g * b : Int) : Rat) ≤ Wi * priQ r.1 g := by
                  rw [HWI.out.1, HWI.out.2.1, Rat.intCast_mul]
                  exact hge
                have HQ := Lib.hid (And.intro hnx (And.intro hbx (And.intro hps (And.intro hge' (And.intro p1 (And.intro p2 (And.intro v1 v2)))))))
                clear hge hps hx hgp hcP p1 p2 v1 v2 hnx hbx hge' hgG
                generalize sumZ (fun g => useN V i g) g = s at *
                generalize besTo V r.1 Wi b i g = bt at *
                generalize useN V i g = u at *
                generalize priQ r.1 g = pg at *
                have hw : wrap64 (s + u) = s + u := w64 (by omega)
                obtain ⟨z, hz⟩ : ∃ z, z = u * b := ⟨_, rfl⟩
                have hwm : wrap64 (u * b) = z := by rw [hz]; exact w64 (by omega)
                rw [← hz] at hubd HQ
                have l3 : (g : Int) < (k : Int) := by omega
                have l4 : (0 : Int) ≤ (g : Int) := by omega
                have l5 : (i : Int) < (n : Int) := by omega
                have l6 : (0 : Int) ≤ (i : Int) := by omega
                clear hz
                go_upto_region 23 with fail
                have HMU := Lib.hid fun w' => wmul_use Wi pg w' HWI.out.2.2.2.2 HQ.out.2.2.1
                have hxs := wmul_sm HWI.out.2.2.2.2 HQ.out.2.2.1
                have hlx := HQ.out.2.2.2.1
                have hbx := HQ.out.2.1
                obtain ⟨x, hx⟩ : ∃ x, x = Wi * pg := ⟨_, rfl⟩
                rw [← hx] at HMU hxs hlx hbx
                have HLS := Lib.hid fun w' => wless_use x z w' hxs (by omega) hlx
                have HWH := Lib.hid fun w' => l4whole_use z w'
                have HBX := Lib.hid (And.intro HQ.out.1 hbx)
                have hqe := run_eq_frac7 x ((z : Int) : Rat)
                rw [Rat.num_intCast, Rat.den_intCast] at hqe
                have d1 : ∀ A' (s : DescA wi 37 #[.int .i64 0, .int .i64 0] A'), s.val.cell? (aW.add (i * 2)) = some (.int .i64 Wi.num) := fun A' s => s.cell HQ.out.2.2.2.2.2.2.1
                have d2 : ∀ A' (s : DescA wi 37 #[.int .i64 0, .int .i64 0] A'), s.val.cell? ⟨(aW.add (i * 2)).block, (aW.add (i * 2)).off + 1, none⟩ = some (.int .i64 (Wi.den : Int)) := fun A' s => s.cell HQ.out.2.2.2.2.2.2.2
                have d3 : ∀ A' (s : DescA wi 37 #[.int .i64 0, .int .i64 0] A'), s.val.cell? (aP.add (g * 2)) = some (.int .i64 pg.num) := fun A' s => s.cell HQ.out.2.2.2.2.1
                have d4 : ∀ A' (s : DescA wi 37 #[.int .i64 0, .int .i64 0] A'), s.val.cell? ⟨(aP.add (g * 2)).block, (aP.add (g * 2)).off + 1, none⟩ = some (.int .i64 (pg.den : Int)) := fun A' s => s.cell HQ.out.2.2.2.2.2.1
                have HD := Lib.hid (And.intro d1 (And.intro d2 (And.intro d3 d4)))
                have hws := HR3.out.size
                clear d1 d2 d3 d4 hxs hlx hbx c1 c2 hs hx
                refine' wp_region_desc_alloc 13 2 37 #[.int .i64 0, .int .i64 0] al_frac7 (by kernel_rfl) (by kernel_rfl) (by kernel_rfl) (by kernel_rfl) _ ?hh ?hq
                case hh =>
                  intro A' hne Q' hQ'
                  have e1 := HD.out.1 A'
                  have e2 := HD.out.2.1 A'
                  have e3 := HD.out.2.2.1 A'
                  have e4 := HD.out.2.2.2 A'
                  have HW2 : Hid (∀ sd : DescA wi 37 #[.int .i64 0, .int .i64 0] A', Calls Try.prog 20 #[.int .i64 z] sd.val fun e w'' => e = .returned (.agg #[.int .i64 z, .int .i64 1]) ∧ ∃ s' : DescA wi 37 #[.int .i64 0, .int .i64 0] A', w'' = s'.val) := Lib.hid fun sd => Calls.descA_of (HWH.out _)
                  have HM2 : Hid (∀ sd : DescA wi 37 #[.int .i64 0, .int .i64 0] A', Calls Try.prog 19 #[.agg #[.int .i64 Wi.num, .int .i64 (Wi.den : Int)], .agg #[.int .i64 pg.num, .int .i64 (pg.den : Int)]] sd.val fun e w'' => e = .returned (.agg #[.int .i64 x.num, .int .i64 (x.den : Int)]) ∧ ∃ s' : DescA wi 37 #[.int .i64 0, .int .i64 0] A', w'' = s'.val) := Lib.hid fun sd => Calls.descA_of (HMU.out _)
                  simp only [List.take_succ_cons, List.take_zero]
                  repeat (go_big_quiet_step (first | (go_at_call 20; exact HW2.out _) | (go_at_call 19; exact HM2.out _)))
                  refine wpQuiet_nil ?_
                  exact hQ'
                case hq =>
                  simp only [List.take_succ_cons, List.take_zero, List.drop_succ_cons, List.drop_zero]
                  intro g5 _ g6 hg6 sd
                  have hb3 := sd.below
                  obtain ⟨z5, B5⟩ := sd.blks g5 (.inr (.inl rfl))
                  obtain ⟨z6, B6⟩ := sd.blks g6 (.inl rfl)
                  have hne : g5 ≠ g6 := fun h => hg6 (.inl h.symm)
                  have hne2 : g6 ≠ g5 := fun h => hne h.symm
                  generalize sd.val = w4 at hb3 B5 B6 ⊢
                  obtain ⟨a0, a1, k0, k1⟩ := B5.at2
                  obtain ⟨b0, b1, m0, m1⟩ := B6.at2
                  have hb4 := ((((HR3.out.trans (hb3.mono hws)).setCell (p := ⟨g5, 0, none⟩) (by show w10.heap.size ≤ g5; omega) (.int .i64 x.num)).setCell (p := ⟨g5, 1, none⟩) (by show w10.heap.size ≤ g5; omega) (.int .i64 (x.den : Int))).setCell (p := ⟨g6, 0, none⟩) (by show w10.heap.size ≤ g6; omega) (.int .i64 z)).setCell (p := ⟨g6, 1, none⟩) (by show w10.heap.size ≤ g6; omega) (.int .i64 1)
                  have hX := ((((B5.set_ 0 (.int .i64 x.num)).set_ 1 (.int .i64 (x.den : Int))).far (p := ⟨g6, 0, none⟩) hne (.int .i64 z)).far (p := ⟨g6, 1, none⟩) hne (.int .i64 1))
                  have hY := (((B6.far (p := ⟨g5, 0, none⟩) hne2 (.int .i64 x.num)).far (p := ⟨g5, 1, none⟩) hne2 (.int .i64 (x.den : Int))).set_ 0 (.int .i64 z)).set_ 1 (.int .i64 1)
                  have H4 := Lib.hid (And.intro hb4 (And.intro hX (And.intro hY (And.intro hX.lt hY.lt))))
                  clear hb3 hb4 B5 B6 hg6 hX hY
                  unfold ptrB
                  go_wp2_with fail
                  refine (HLS.out _).mono ?_
                  rintro e w11 ⟨rfl, hb11⟩
                  have HB11 := Lib.hid (H4.out.1.trans (hb11.mono H4.out.1.size))
                  obtain ⟨x0, x1, _, _⟩ := (H4.out.2.1.below hb11 H4.out.2.2.2.1).at2
                  obtain ⟨y0, y1, _, _⟩ := (H4.out.2.2.1.below hb11 H4.out.2.2.2.2).at2
                  clear a0 a1 k0 k1 b0 b1 m0 m1 hb11 hne hne2
                  cases bt with
                  | true =>
                    go_wp2_with fail
                    go_roundw
                    case rel => exact ⟨g + 1, by omega, by go_num, by rw [HBX.out.1], by rw [HBX.out.2, Bool.true_or], HB11.out⟩
                    case measure => simp [intOf]; omega
                  | false =>
                    by_cases h1 : x.num = z
                    · by_cases h2 : (x.den : Int) = 1
                      · have hxz : decide (x = ((z : Int) : Rat)) = true := decide_eq_true (Rat.ext (by rw [Rat.num_intCast]; exact h1) (by rw [Rat.den_intCast]; omega))
                        rw [h1] at x0
                        rw [h2] at x1
                        have HXZ := Lib.hid hxz
                        clear h1 h2 hxz hqe
                        go_wp2_with fail
                        go_roundw
                        case rel => exact ⟨g + 1, by omega, by go_num, by rw [HBX.out.1], by rw [HBX.out.2, HXZ.out, Bool.false_or], HB11.out⟩
                        case measure => simp [intOf]; omega
                      · have hxz : decide (x = ((z : Int) : Rat)) = false := decide_eq_false (fun h => h2 (by rw [h, Rat.den_intCast]; rfl))
                        have HXZ := Lib.hid hxz
                        clear hxz hqe
                        go_wp2_with fail
                        go_roundw
                        case rel => exact ⟨g + 1, by omega, by go_num, by rw [HBX.out.1], by rw [HBX.out.2, HXZ.out, Bool.false_or], HB11.out⟩
                        case measure => simp [intOf]; omega
                    · have hxz : decide (x = ((z : Int) : Rat)) = false := decide_eq_false (fun h => h1 (by rw [h, Rat.num_intCast]))
                      have HXZ := Lib.hid hxz
                      clear hxz hqe
                      go_wp2_with fail
                      go_roundw
                      case rel => exact ⟨g + 1, by omega, by go_num, by rw [HBX.out.1], by rw [HBX.out.2, HXZ.out, Bool.false_or], HB11.out⟩
                      case measure => simp [intOf]; omega
              · obtain rfl : g = k := by omega
                obtain ⟨g0, hg0, hu0, heq, _⟩ := wor_form HP.out.2.1.1 HP.out.2.1.2 hiB
                have hbt : besTo V r.1 Wi b i g = true := besTo_of (g0 := g0) (by rw [HP.out.2.2.2.1]; exact hg0) (by rw [HWI.out.1, heq, HWI.out.2.1, Rat.intCast_mul]; rfl)
                have hsu := fair_sum HP.out.2.1.1 HP.out.2.1.2 hiB
                have hsu' : ((sumZ (fun g => useN V i g) g * b : Int) : Rat) ≤ Wi * ((all : Int) : Rat) := by
                  rw [HALL.out, HWI.out.1, HWI.out.2.1, Rat.intCast_mul, ← sumZ_Q, ← sumZ_Q, HP.out.2.2.2.1, ← hnB]
                  exact hsu
                rw [hbt]
                have hall2 := wall_use Wi all
                have hba : 0 ≤ all ∧ all ≤ 1000 := by omega
                have v1 := (HR3.out.cell (lt_of_cell HV10.out.1)).trans HV10.out.1
                have v2 := (HR3.out.cell (lt_of_cell HV10.out.2)).trans HV10.out.2
                generalize sumZ (fun g => useN V i g) g = s at *
                have hsb : 0 ≤ s * b ∧ s * b ≤ 1200 := by
                  have h1 := Int.mul_nonneg hs.1 hb.1
                  have h2 : s * b ≤ 60 * 20 := Int.mul_le_mul (by omega) hb.2 hb.1 (by omega)
                  omega
                obtain ⟨z, hz⟩ : ∃ z, z = s * b := ⟨_, rfl⟩
                have hwm : wrap64 (s * b) = z := by rw [hz]; exact w64 (by omega)
                rw [← hz] at hsb hsu'
                have hxs := (hall2 wi HWI.out.2.2.2.2 hba).2
                obtain ⟨x, hx⟩ : ∃ x, x = Wi * ((all : Int) : Rat) := ⟨_, rfl⟩
                rw [← hx] at hxs hsu'
                have HMU : Hid (∀ sd : Desc wi, Calls Try.prog 19 #[.agg #[.int .i64 Wi.num, .int .i64 (Wi.den : Int)], .agg #[.int .i64 all, .int .i64 1]] sd.val fun e w'' => e = .returned (.agg #[.int .i64 x.num, .int .i64 (x.den : Int)]) ∧ ∃ s' : Desc wi, w'' = s'.val) := Lib.hid fun sd => Calls.desc_of (by rw [hx]; exact (hall2 sd.val HWI.out.2.2.2.2 hba).1)
                have HWH : Hid (∀ (sd : Desc wi) (q : Int), Calls Try.prog 20 #[.int .i64 q] sd.val fun e w'' => e = .returned (.agg #[.int .i64 q, .int .i64 1]) ∧ ∃ s' : Desc wi, w'' = s'.val) := Lib.hid fun sd q => Calls.desc_of (l4whole_use q sd.val)
                have HLS : Hid (∀ sd : Desc wi, Calls Try.prog 22 #[.agg #[.int .i64 x.num, .int .i64 (x.den : Int)], .agg #[.int .i64 z, .int .i64 1]] sd.val fun e w'' => e = .returned (.bool false) ∧ ∃ s' : Desc wi, w'' = s'.val) := Lib.hid fun sd => Calls.desc_of (wless_use x z sd.val ⟨⟨hxs.1.1, by omega⟩, by omega⟩ (by omega) hsu')
                have d1 : ∀ sd : Desc wi, sd.val.cell? (aW.add (i * 2)) = some (.int .i64 Wi.num) := fun sd => sd.cell v1
                have d2 : ∀ sd : Desc wi, sd.val.cell? ⟨(aW.add (i * 2)).block, (aW.add (i * 2)).off + 1, none⟩ = some (.int .i64 (Wi.den : Int)) := fun sd => sd.cell v2
                have l5 : (i : Int) < (n : Int) := by omega
                have l6 : (0 : Int) ≤ (i : Int) := by omega
                clear hall2 v1 v2 hz hxs hsu hsu' heq hu0 hg0 hbt hx
                go_upto_region 28 with fail
                refine wp_region_desc (by kernel_rfl) (by kernel_rfl) ?_
                repeat (go_big_quiet_step (first | (go_at_call 20; exact HWH.out _ _) | (go_at_call 19; exact HMU.out _) | (go_at_call 22; exact HLS.out _)))
                refine wpQuiet_nil ?_
                rintro _ ⟨sd, rfl⟩
                have HBE := Lib.hid (HC10.out.2.trans ((HR3.out.trans (sd.below.mono HR3.out.size)).mono HC10.out.2.size))
                clear d1 d2
                go_wp2_with fail
                go_roundw
                case rel => exact ⟨i + 1, by omega, by go_num, HBE.out⟩
                case measure => simp [intOf]; omega
          · obtain rfl : n = i := by omega
            go_wp2_with fail
            refine (l4awake_any _).mono ?_
            rintro e w11 ⟨rfl, hb11⟩
            have HC11 := Lib.hid (HC9.out.next hb11)
            clear hb11
            go_wp2_with fail
            go_ret
            exact ⟨rfl, HC11.out.2⟩

/- MarketSplit: the walk. -/

/-- A number turned in a row of one's own. -/
theorem own_turn {w : World} {base g n c : Nat} {xs : List Int} (h : w.ownsRow base 3 1 (.slice (some ⟨g, 0, none⟩) n c) n (xs.map (Value.int .i64))) (hl : xs.length = n) (p : Nat) (y : Int) :
    (w.setCell ⟨g, p, none⟩ (.int .i64 y)).ownsRow base 3 1 (.slice (some ⟨g, 0, none⟩) n c) n ((xs.set p y).map (Value.int .i64)) := by
  refine ⟨by simp [hl], ?_⟩
  rcases h.2 with ⟨h0, h1⟩ | ⟨g', cap', cur, hv, hb, hg, h1, h2, hsz, ht⟩
  · cases h0
  · injection hv with e1 _ e3
    injection e1 with e1
    injection e1 with e1
    subst e1; subst e3
    refine .inr ⟨g, c, cur.setIfInBounds p (.int .i64 y), rfl, hb, (show Blk w g 3 cur from hg).set_ p _, h1, h2, by simp [hsz], ?_⟩
    rw [Array.toList_setIfInBounds, List.take_set, ht, List.map_set]
/-- A row of one's own is not the block of another type. -/
theorem own_farB {w : World} {base e size n g t : Nat} {v : Value} {xs : List Value} {cs : Array Value} (h : w.ownsRow base e size v n xs) (hB : Blk w g t cs) (hne : t ≠ e) (p : Nat) (u : Value) : (w.setCell ⟨g, p, none⟩ u).ownsRow base e size v n xs := by
  obtain ⟨h1, h2⟩ := h
  refine ⟨h1, ?_⟩
  rcases h2 with h2 | ⟨g', cap, cur, hv, a1, a2, a3⟩
  · exact .inl h2
  · have hg : g' ≠ g := fun he => by
      unfold Blk at hB
      rw [← he, a2] at hB
      injection hB with hB
      injection hB with _ h3 _
      exact hne h3.symm
    exact .inr ⟨g', cap, cur, hv, a1, (Below.heap_setCell w ⟨g, p, none⟩ u g' hg).trans a2, a3⟩
theorem ORows.far {w : World} {base g t : Nat} {vs : List Value} {L : List (List Int)} {cs : Array Value} (h : ORows w base vs L) (hB : Blk w g t cs) (hne : t ≠ 3) (p : Nat) (u : Value) : ORows (w.setCell ⟨g, p, none⟩ u) base vs L :=
  ⟨h.1, fun j os hj => by obtain ⟨A, c, h1, h2⟩ := h.2.1 j os hj; exact ⟨A, c, h1, own_farB h2 hB hne p u⟩, h.2.2⟩
set_option maxRecDepth 100000 in
set_option maxHeartbeats 4000000 in
theorem law_msplit (A : Option Addr) (n c : Nat) (U : Option Addr) (m d : Nat) (B : List Int) (V : List (List Int)) (pt : Int) (W : World) (hK : MktArg W A n c U m d B V) (_ : -9223372036854775808 ≤ pt ∧ pt ≤ 9223372036854775807) :
    Calls Try.prog 9 #[mktV A n c U m d, .int .i64 pt] W fun e w' => e = .returned (.bool true) ∧ Below W.heap.size W w' := by
  have hC1 := Ch.start W A n c U m d
  obtain ⟨w1, hw1⟩ : ∃ w1, w1 = W.alloc (.cells #[.slice A n c, .slice U m d] 25) := ⟨_, rfl⟩
  rw [← hw1] at hC1
  have HK := Lib.hid hK
  have HC1 := Lib.hid hC1
  obtain ⟨m1, m2, _, _⟩ := hC1.1.at2
  clear hK hC1
  unfold mktV
  go_enter Try.func9, Try.ntmps9
  go_wp2_with fail
  rw [← hw1]
  clear hw1
  refine ((HK.out.below HC1.out.2).of).mono ?_
  rintro e w2 ⟨A2, n2, c2, U2, q2, d2, b2, vs2, rfl, hO2⟩
  have HC2 := Lib.hid (HC1.out.next hO2.below)
  have HO2 := Lib.hid hO2
  clear hO2 m1 m2
  go_wp2_with fail
  refine (of_prices HO2.out).mono ?_
  intro ev w3 hpost
  unfold PricesPost at hpost
  obtain ⟨hb3, hpost⟩ := hpost
  have HC3 := Lib.hid (HC2.out.next hb3)
  clear hb3
  obtain ⟨m1, m2, _, _⟩ := HC3.out.1.at2
  cases hp : prF B V with
  | none =>
    rw [hp] at hpost
    subst hpost
    have HP := Lib.hid hp
    clear hp
    go_wp2_with fail
    refine ((HK.out.below HC3.out.2).of).mono ?_
    rintro e w4 ⟨A4, n4, c4, U4, q4, d4, b4, vs4, rfl, hO4⟩
    have HC4 := Lib.hid (HC3.out.next hO4.below)
    have HO4 := Lib.hid hO4
    clear hO4 m1 m2
    go_wp2_with fail
    refine (of_worth HO4.out).mono ?_
    intro ev w5 hpost
    unfold WorthPost at hpost
    rw [HP.out] at hpost
    obtain ⟨hb5, rfl⟩ := hpost
    have HC5 := Lib.hid (HC4.out.next hb5)
    clear hb5
    go_wp2_with fail
    refine (l4awake_any _).mono ?_
    rintro e w6 ⟨rfl, hb6⟩
    have HC6 := Lib.hid (HC5.out.next hb6)
    clear hb6
    go_wp2_with fail
    go_ret
    exact ⟨rfl, HC6.out.2⟩
  | some r =>
    rw [hp] at hpost
    obtain ⟨PA, pc, rfl, hown3⟩ := hpost
    have hpr := prF_ok hp
    have hpl := hpr.2.lp
    have hg3 := (validM_iff.1 hpr.1).2.1
    have hn3 := (validM_iff.1 hpr.1).1
    have hnB := HK.out.mkt.hB
    obtain ⟨k, hk⟩ : ∃ k, k = goodsN V := ⟨_, rfl⟩
    rw [← hk] at hg3 hpl
    have hfr3 := Fracs.of_cells (At.of_own hown3)
    have HP := Lib.hid (And.intro hp (And.intro hpr (And.intro hpl (And.intro hk hn3))))
    have HF3 := Lib.hid hfr3
    rw [hpl]
    have hn13 : 1 ≤ n ∧ n ≤ 3 := by omega
    clear hp hpr hpl hk hown3 hfr3 hn3
    go_wp2_with fail
    refine ((HK.out.below HC3.out.2).of).mono ?_
    rintro e w4 ⟨A4, n4, c4, U4, q4, d4, b4, vs4, rfl, hO4⟩
    have HC4 := Lib.hid (HC3.out.next hO4.below)
    have HO4 := Lib.hid hO4
    have HF4 := Lib.hid (HF3.out.below hO4.below')
    clear hO4 m1 m2
    go_wp2_with fail
    refine (of_worth HO4.out).mono ?_
    intro ev w5 hpost
    unfold WorthPost at hpost
    rw [HP.out.1] at hpost
    obtain ⟨hb5, WA, wc5, rfl, hF5⟩ := hpost
    have HC5 := Lib.hid (HC4.out.next hb5)
    have HF5 := Lib.hid (And.intro (HF4.out.below hb5) hF5)
    obtain ⟨m1, m2, _, _⟩ := HC5.out.1.at2
    have HV := Lib.hid (HK.out.below HC5.out.2).valid
    rw [HP.out.2.1.1] at HV
    rw [hnB]
    clear hb5 hF5
    go_wp2_with fail
    refine HV.out.mono ?_
    rintro e w6 ⟨rfl, hb6⟩
    have HC6 := Lib.hid (HC5.out.next hb6)
    have HF6 := Lib.hid (And.intro (HF5.out.1.below hb6) (HF5.out.2.below hb6))
    clear hb6 m1 m2 HV
    obtain ⟨m1, m2, _, _⟩ := HC6.out.1.at2
    have hB0 : B[0]? = some (B.getD 0 0) := by rw [List.getD_eq_getElem?_getD, List.getElem?_eq_getElem (by omega)]; rfl
    have hb0 := HP.out.2.2.2.2.2.2.1 (B.getD 0 0) (List.mem_of_getElem? hB0)
    obtain ⟨aB, hA, hAl, hcB⟩ := HK.out.mkt.budgets.some_ (by omega)
    subst hA
    have hx := hcB 0 _ hB0
    have c1 := (HC6.out.2.cell (lt_of_cell hx)).trans hx
    have ea : aB.add 0 = aB := by simp [Addr.add]
    rw [ea] at c1
    obtain ⟨b0, hbe⟩ : ∃ b, b = B.getD 0 0 := ⟨_, rfl⟩
    rw [← hbe] at hb0 c1
    have hB0' := hB0
    rw [← hbe] at hB0'
    have HB := Lib.hid (And.intro hB0' hbe)
    clear hB0 hB0' hx hcB hAl ea hbe
    by_cases hn2 : n ≤ 2
    · by_cases hb2 : 2 ≤ b0
      · have n1 : ¬ (2 : Int) < (n : Int) := by omega
        have n2 : ¬ b0 < 2 := by omega
        have n3 : (0 : Int) < (n : Int) := by omega
        go_wp2_with fail
        refine ((HK.out.below HC6.out.2).of).mono ?_
        rintro e w7 ⟨A7, n7, c7, U7, q7, d7, b7, vs7, rfl, hO7⟩
        have hsame := of_same (.inr HP.out.2.1.1)
        obtain rfl : n = n7 := by rw [hO7.ln, hsame.1]; exact hnB.symm
        obtain ⟨g, rfl, hg1, hg2, hR⟩ := hO7.rowB hsame.1 (by omega)
        have HC7 := Lib.hid (And.intro (HC6.out.next hO7.below) (And.intro (HF6.out.1.below hO7.below') (HF6.out.2.below hO7.below')))
        have HO7 := Lib.hid (And.intro hO7 hsame)
        have hgl := hR.lt
        obtain ⟨w8, hw8⟩ : ∃ w8, w8 = w7.alloc (.cells #[.slice (some ⟨g, 0, none⟩) n c7, .slice U7 q7 d7] 30) := ⟨_, rfl⟩
        have hX : Blk w8 w7.heap.size 30 #[.slice (some ⟨g, 0, none⟩) n c7, .slice U7 q7 d7] := by rw [hw8]; exact Blk.new _ _ _ rfl
        have hb8 : Below w7.heap.size w7 w8 := by rw [hw8]; exact (Below.refl _ _).alloc (Nat.le_refl _) _
        have hR8 := hR.below hb8
        have c2 := hR8.read HB.out.1
        have c3 := hR8.frozen 0
        obtain ⟨x1, x2, f1, f2⟩ := hX.at2
        have hs8 : w8.heap.size = w7.heap.size + 1 := by rw [hw8]; simp
        have HC8 := Lib.hid (HC7.out.1.next hb8)
        obtain ⟨m1, m2, _, _⟩ := HC8.out.1.at2
        have c1' := ((hO7.below.trans (hb8.mono hO7.below.size)).cell (lt_of_cell c1)).trans c1
        have HX := Lib.hid (And.intro hX (And.intro hb8 (And.intro hR8 hs8)))
        have hgne : g ≠ w7.heap.size := by omega
        have hne1 : ¬ b0 - 1 = 0 := by omega
        obtain ⟨y, hy, hye⟩ := byM_of pt (k := b0 - 1) (by omega) (by omega)
        have hwy : wrap64 (b0 - y) = b0 - y := w64 (by omega)
        have HY := Lib.hid (show 1 ≤ y ∧ y ≤ b0 - 1 by omega)
        clear hy
        clear hO7 hR hX hb8 hR8 hs8 c1 hsame
        go_upto_region 8 with fail
        rw [← hw8]
        clear hw8
        go_upto_region 9 with fail
        rw [hye]
        clear hye
        obtain ⟨w9, hw9⟩ : ∃ w9, w9 = w8.setCell ⟨g, 0, none⟩ (.int .i64 (b0 - y)) := ⟨_, rfl⟩
        have hX9 : Blk w9 w7.heap.size 30 #[.slice (some ⟨g, 0, none⟩) n c7, .slice U7 q7 d7] := by rw [hw9]; exact HX.out.1.far (p := ⟨g, 0, none⟩) (fun h => hgne h.symm) _
        have hown9 : w9.ownsRow w6.heap.size 3 1 (.slice (some ⟨g, 0, none⟩) n c7) n ((B.set 0 (b0 - y)).map (Value.int .i64)) := by
          rw [hw9]
          have h1 := HO7.out.1.bud
          rw [HO7.out.2.1] at h1
          exact own_turn (own_below h1 HX.out.2.1) hnB 0 _
        have hk9 : Kept w7.heap.size [g] w7 w9 := by rw [hw9]; exact (Kept.of_below HX.out.2.1 _).setCell (.inl (by simp)) _
        have hb69 : Below w6.heap.size w6 w9 := by rw [hw9]; exact ((HO7.out.1.below).trans (HX.out.2.1.mono HO7.out.1.below.size)).setCell hg1 _
        have H9 := Lib.hid (And.intro hX9 (And.intro hown9 (And.intro hk9 hb69)))
        have hs9 := hb69.size
        clear hX9 hown9 hk9 hb69
        go_upto_region 10 with fail
        rw [← hw9]
        have HZ9 : Hid (w9.heap.size = w8.heap.size) := Lib.hid (by rw [hw9]; simp)
        clear hw9 x1 x2 f1 f2
        obtain ⟨x1, x2, f1, f2⟩ := H9.out.1.at2
        go_wp2_with (at_builtin; refine app1g sty_ints9 rfl _ _ rfl w6.heap.size (some ⟨g, 0, none⟩) n c7 _ #[.int .i64 y] rfl (by simp [Value.oneCell']) rfl H9.out.2.1 _ rfl (by simp) (by omega) hs9 ?_)
        intro A10 c10 w10 hown10 hg10 _ hk101 hk102
        have hxs : w7.heap.size < w9.heap.size := by rw [HZ9.out, HX.out.2.2.2]; omega
        have hX10 : Blk w10 w7.heap.size 30 #[.slice (some ⟨g, 0, none⟩) n c7, .slice U7 q7 d7] := (hg10.block _ hxs (fun h => hgne (by injection h with h; exact h.symm))).trans H9.out.1
        have hk10 : Kept w7.heap.size [g] w7 w10 := H9.out.2.2.1.trans ⟨hg10.os, hg10.tape, hg10.output, hg10.size, fun k hk hn => hg10.block k (by omega) (fun h => hn (by injection h with h; simp [h]))⟩
        have hs10 := hg10.size
        have hA10 : ∀ ad, A10 = some ad → ad.block ≠ w7.heap.size := fun ad he h => by
          subst he
          rcases hown10.2 with ⟨h0, _⟩ | ⟨g', cap', cur, hv, _, hgg, _⟩
          · cases h0
          · injection hv with e1 _ _
            injection e1 with e1
            subst e1
            have h2 := hX10
            unfold Blk at h2
            have h' : g' = w7.heap.size := h
            rw [h'] at hgg
            rw [hgg] at h2
            injection h2 with h2
            injection h2 with _ h3 _
            exact absurd h3 (by decide)
        obtain ⟨w11, hw11⟩ : ∃ w11, w11 = w10.setCell ⟨w7.heap.size, 0, none⟩ (.slice A10 (n + 1) c10) := ⟨_, rfl⟩
        have hX11 : Blk w11 w7.heap.size 30 #[.slice A10 (n + 1) c10, .slice U7 q7 d7] := by rw [hw11]; exact hX10.set_ 0 _
        have hown11 : w11.ownsRow w6.heap.size 3 1 (.slice A10 (n + 1) c10) (n + 1) ((splB B y).map (Value.int .i64)) := by
          rw [hw11]
          have e : (splB B y).map (Value.int .i64) = (B.map (Value.int .i64)).set 0 (Value.int .i64 (b0 - y)) ++ [Value.int .i64 y] := by
            unfold splB
            rw [List.map_append, List.map_set, ← HB.out.2]
            rfl
          rw [e]
          exact own_same hown10 (fun ad he _ => Below.heap_setCell _ _ _ _ (hA10 ad he))
        have hk11 : Kept w7.heap.size [g] w7 w11 := by rw [hw11]; exact hk10.setCell (.inr (Nat.le_refl _)) _
        have hb11 : Below w6.heap.size w6 w11 := by rw [hw11]; exact ((HO7.out.1.below).trans (hk10.mono (B' := w6.heap.size) (S' := []) (by have := HO7.out.1.below.size; omega) (fun x hx => by simp at hx; right; omega)).below).setCell (by show w6.heap.size ≤ w7.heap.size; have := HO7.out.1.below.size; omega) _
        have H11 := Lib.hid (And.intro hX11 (And.intro hown11 (And.intro hk11 hb11)))
        have HX10 := Lib.hid hX10
        clear hX10 hk10 hA10 hX11 hown11 hk11 hb11 hown10 hg10
        -- the world as it stands ahead of region 11
        have hiV : 0 < V.length := by have := (validM_iff.1 HP.out.2.1.1).1.2.2.2; omega
        obtain ⟨aU, hUA, _, hcU⟩ := (HK.out.mkt.uses.below (HC6.out.2.trans (H11.out.2.2.2.mono HC6.out.2.size))).some_ hiV
        subst hUA
        obtain ⟨aR, cR, hcR, hR1, hR2, hIR⟩ := hcU 0 _ (rowV_some hiV)
        have hrl : (rowV V 0).length = k := by rw [HP.out.2.2.2.1]; rfl
        have ea : aU.add 0 = aU := by simp [Addr.add]
        rw [ea, hrl] at hcR
        rw [hrl] at hR1
        have HROW := Lib.hid (And.intro hIR hrl)
        obtain ⟨mm1, mm2, _, _⟩ := (HC6.out.next H11.out.2.2.2).1.at2
        have lm : 0 < m := by have := HK.out.mkt.hV; omega
        have lm2 : ¬ m = 0 := by omega
        clear x1 x2 f1 f2 m1 m2 c2 c3 c1' hcU hIR hrl ea hiV
        obtain ⟨x1, x2, f1, f2⟩ := HX10.out.at2
        go_upto_region 11 with fail
        rw [← hw11]
        clear hw11 x1 x2 f1 f2
        obtain ⟨x1, x2, f1, f2⟩ := H11.out.1.at2
        have HCL := Lib.hid fun w' (hb : Below w11.heap.size w11 w') => clone_any aR k cR (rowV V 0) w' HROW.out.2 (by omega) (HROW.out.1.below hb)
        have hs11 := H11.out.2.2.2.size
        have hb7s := HO7.out.1.b5le
        have hq76 := HO7.out.1.sizes.2
        obtain ⟨gU, hUe, hU1, hU2⟩ := own_some HO7.out.1.use (by rw [HO7.out.1.lq, HO7.out.2.2, HK.out.mkt.hV]; exact lm)
        subst hUe
        have hb7l : b7 < w7.heap.size := by omega
        have hs711 := H11.out.2.2.1.size
        have hst : ∀ (w3 : World) (A3 : Option Addr) (c3 : Nat), w3.ownsRow w11.drew.heap.size 3 1 (.slice A3 k c3) k ((rowV V 0).map (Value.int .i64)) → Below w11.drew.heap.size w11.drew w3 →
            w3.ownsRow b7 22 1 (.slice (some ⟨gU, 0, none⟩) q7 d7) q7 vs7 ∧ ORows w3 b7 (vs7 ++ [.slice A3 k c3]) (splV V) ∧ Blk w3 w7.heap.size 30 #[.slice A10 (n + 1) c10, .slice (some ⟨gU, 0, none⟩) q7 d7] ∧ Below w11.heap.size w11 w3 := by
          intro w3 A3 c3 hown3 hb3
          have hb3' : Below w11.heap.size w11 w3 := (below_drewN (Below.refl _ w11) 1).trans hb3
          have hne : ∀ {v : Value} {e size m : Nat} {xs : List Value}, w7.ownsRow b7 e size v m xs → w11.ownsRow b7 e size v m xs := by
            intro v e size m xs ho
            obtain ⟨h1, h2⟩ := ho
            refine ⟨h1, ?_⟩
            rcases h2 with h2 | ⟨g', cap, cur, hv, a1, a2, a3⟩
            · exact .inl h2
            · exact .inr ⟨g', cap, cur, hv, a1, (H11.out.2.2.1.block g' (lt_of_block a2) (by simp; omega)).trans a2, a3⟩
          have hu := hne HO7.out.1.use
          have hro : ORows w11 b7 vs7 V := by
            have h1 := HO7.out.1.rows
            rw [HO7.out.2.2] at h1
            exact ⟨h1.1, fun j os hj => by obtain ⟨A', c', h2, h3⟩ := h1.2.1 j os hj; exact ⟨A', c', h2, hne h3⟩, h1.2.2⟩
          have hor := (hro.below hb3').snoc (b2 := w11.heap.size) (by omega) (by rw [HROW.out.2]; exact hown3) hro.lt
          rw [HROW.out.2] at hor
          exact ⟨own_below hu hb3', hor, H11.out.1.below hb3' H11.out.1.lt, hb3'⟩
        have HST := Lib.hid hst
        clear hst
        go_region_law (first
          | (go_simp; go_at_call 30; refine (HCL.out _ (below_drewN (Below.refl _ w11) 1)).mono ?_; rintro e w3 ⟨A3, c3, rfl, hown3, hb3⟩; have hq3 := HST.out w3 A3 c3 hown3 hb3; have hz3 := hq3.2.2.2.size; have hc3 := hq3.2.2.1.at2.2.1; have hc3' := fun o => (hq3.2.2.1.alloc o).at2.2.1)
          | (refine step_app1 (w := w3) sty_intss (by rfl) (.tmp 93) (.tmp 99) (by rfl) b7 (some ⟨gU, 0, none⟩) q7 d7 vs7 #[.slice A3 k c3] (by rfl) (by simp [Value.oneCell']) (by rfl) hq3.1 (by rfl) (by omega) (by omega) ?_; intro A9 k9 w12 hown4 hg4 hbl4 hk41 hk42; have hX12 : Blk w12 w7.heap.size 30 #[.slice A10 (n + 1) c10, .slice (some ⟨gU, 0, none⟩) q7 d7] := (hg4.block _ hq3.2.2.1.lt (fun h => by injection h with h; have h' : w7.heap.size = gU := h; omega)).trans hq3.2.2.1; have hc9 := hX12.at2.2.1; have hf9 := hX12.frozen 1))
        all_goals
          have hu13 := own_farB hown4 hX12 (by decide) 1 (.slice A9 (q7 + 1) k9)
          have hr13 := (hq3.2.1.grown hq3.1 hg4).far hX12 (by decide) 1 (.slice A9 (q7 + 1) k9)
          have hB13 := own_farB (own_grown_ne (own_below H11.out.2.1 hq3.2.2.2) hq3.1 hg4) hX12 (by decide) 1 (.slice A9 (q7 + 1) k9)
          have hX13 := hX12.set_ 1 (.slice A9 (q7 + 1) k9)
          have hb13 : Below w6.heap.size w6 (w12.setCell ⟨w7.heap.size, 1, none⟩ (.slice A9 (q7 + 1) k9)) := ((H11.out.2.2.2.trans (hq3.2.2.2.mono hs11)).trans (hbl4.mono hb7s)).setCell (by show w6.heap.size ≤ w7.heap.size; have := HO7.out.1.below.size; omega) _
          have H13 := Lib.hid (And.intro hu13 (And.intro hr13 (And.intro hB13 (And.intro hX13 hb13))))
          clear hu13 hr13 hB13 hX13 hb13 hown4 hg4 hbl4 hq3 hc3 hc3' hown3 hb3 hX12 hc9 hf9
          obtain ⟨w13, hw13⟩ : ∃ w13, w13 = w12.setCell ⟨w7.heap.size, 1, none⟩ (.slice A9 (q7 + 1) k9) := ⟨_, rfl⟩
          rw [← hw13] at H13
          have hM13 : MktAt w13 A10 (n + 1) A9 (q7 + 1) (splB B y) (splV V) := ⟨by rw [splB_length, hnB], by have := HO7.out.1.lq; rw [HO7.out.2.2] at this; simp [splV, this], At.of_own H13.out.2.2.1, H13.out.2.1.mat H13.out.1⟩
          have HM13 := Lib.hid hM13
          obtain ⟨z1, z2, _, _⟩ := H13.out.2.2.2.1.at2
          clear hM13 x1 x2 f1 f2
          go_upto_region 12 with fail
          rw [← hw13]
          clear hw13
          go_wp2_with fail
          have hvS : validM (splB B y) (splV V) = true := spl_valid HP.out.2.1.1 (by omega) (by rw [← HB.out.2]; exact HY.out)
          have hex : ∃ r', prF (splB B y) (splV V) = some r' := by
            obtain ⟨r', hr'⟩ := found_any _ _ hvS
            exact ⟨r', by unfold prF; rw [if_pos hvS]; exact hr'⟩
          obtain ⟨r', hr'⟩ := hex
          have HR' := Lib.hid (And.intro hr' (spl_prices HP.out.1 (by rw [← HB.out.2]; exact HY.out) hr'))
          have hrows : ∀ r ∈ splV V, r.length ≤ 1000 := fun r hr => by
            have h1 := (rowOk_iff.1 ((validM_iff.1 hvS).2.2.1 r hr)).1
            have := (validM_iff.1 hvS).2.1.2
            omega
          have HPO := Lib.hid (mprices_any A10 (n + 1) c10 A9 (q7 + 1) k9 (splB B y) (splV V) w13 HM13.out (by omega) (by omega) hrows (found_any _ _))
          have HRW := Lib.hid hrows
          clear hvS hr' hrows
          refine HPO.out.mono ?_
          intro ev w14 hpost
          unfold PricesPost at hpost
          rw [HR'.out.1] at hpost
          obtain ⟨hb14, QA, qc, rfl, hown14⟩ := hpost
          rw [HR'.out.2, HP.out.2.2.1] at hown14 ⊢
          have hfr14 := Fracs.of_cells (At.of_own hown14)
          have H14 := Lib.hid (And.intro hb14 hfr14)
          have z1' := (hb14.cell (lt_of_cell z1)).trans z1
          have z2' := (hb14.cell (lt_of_cell z2)).trans z2
          clear hb14 hown14 hfr14 z1 z2 HPO
          go_wp2_with fail
          have HWO := Lib.hid (mworth_any A10 (n + 1) c10 A9 (q7 + 1) k9 (splB B y) (splV V) w14 (HM13.out.below H14.out.1) (by omega) (by omega) HRW.out (found_any _ _))
          refine HWO.out.mono ?_
          intro ev w15 hpost
          unfold WorthPost at hpost
          rw [HR'.out.1] at hpost
          obtain ⟨hb15, YA, yc, rfl, hF15⟩ := hpost
          rw [splB_length, hnB] at hF15 ⊢
          have H15 := Lib.hid (And.intro hb15 (And.intro (H14.out.2.below hb15) hF15))
          clear hb15 hF15 HWO z1' z2'
          go_wp2_with fail
          have hb615 : Below w6.heap.size w6 w15 := H13.out.2.2.2.2.trans ((H14.out.1.trans (H15.out.1.mono H14.out.1.size)).mono H13.out.2.2.2.2.size)
          have HF15 := Lib.hid (And.intro (HF6.out.1.below hb615) (HF6.out.2.below hb615))
          have HC15 := Lib.hid (HC6.out.next hb615)
          clear hb615
          refine (equalF_any PA QA k k pc qc r.1 r.1 w15 HP.out.2.2.1 HP.out.2.2.1 (by omega) HF15.out.1 H15.out.2.1).mono ?_
          rintro e w16 ⟨rfl, m16, hw16⟩
          have hb16 : Below w15.heap.size w15 w16 := by rw [hw16]; exact below_drewN (Below.refl _ _) m16
          have HC16 := Lib.hid (HC15.out.next hb16)
          have HW16 := Lib.hid (HF15.out.2.below hb16)
          have HY16 := Lib.hid (H15.out.2.2.below hb16)
          rw [show ∀ l : List Rat, eqB l l = true from fun l => decide_eq_true rfl]
          clear hw16 hb16
          go_wp2_with fail
          go_loopw [134] (fun iv wx => ∃ i : Nat, i ≤ n + 1 ∧ iv = .int .i64 i ∧ Below w16.heap.size w16 wx) (fun iv _ => n + 1 - (intOf iv).toNat)
          case atStart => exact ⟨0, Nat.zero_le _, rfl, Below.refl _ _⟩
          case round =>
            obtain ⟨i, hi, rfl, hbl⟩ := hrel
            obtain ⟨wo, rfl⟩ : ∃ wo : World, wo = wr := ⟨_, rfl⟩
            have hgW : ∀ j, j < n → (worL V B.length (goodsN V) r)[j]? = some (worTo V r.1 r.2 j (goodsN V)) := fun j hj => by
              unfold worL
              rw [List.getElem?_map, List.getElem?_range (by omega)]; rfl
            have hgY : ∀ j, j < n + 1 → (worL (splV V) (n + 1) (goodsN (splV V)) r')[j]? = some (worTo (splV V) r'.1 r'.2 j (goodsN V)) := fun j hj => by
              unfold worL
              rw [List.getElem?_map, List.getElem?_range hj, splV_goods (by have := (validM_iff.1 HP.out.2.1.1).1.2.2.2; omega)]; rfl
            obtain ⟨aW, hWA, _, hcW⟩ := (HW16.out.below hbl).some_ (by unfold worL; rw [List.length_map, List.length_range]; omega)
            subst hWA
            obtain ⟨aY, hYA, _, hcY⟩ := (HY16.out.below hbl).some_ (by unfold worL; rw [List.length_map, List.length_range]; omega)
            subst hYA
            have hsm : ∀ j, j < n + 1 → WoS (worTo (splV V) r'.1 r'.2 j (goodsN V)) := fun j hj => by
              have h1 := fair_sm (prF_ok HR'.out.1).1 (prF_ok HR'.out.1).2 (i := j) (by rw [splB_length]; omega)
              rwa [splV_goods (by have := (validM_iff.1 HP.out.2.1.1).1.2.2.2; omega)] at h1
            have HCW := Lib.hid (And.intro (fun j hj => hcW j _ (hgW j hj)) (And.intro (fun j hj => hcY j _ (hgY j hj)) hsm))
            have HR := Lib.hid hbl
            clear hbl hgW hgY hcW hcY hsm
            by_cases hin : i < n + 1
            · obtain ⟨v1, v2⟩ := HCW.out.2.1 i hin
              have hsm := HCW.out.2.2 i hin
              obtain ⟨z, hz⟩ : ∃ q, q = worTo (splV V) r'.1 r'.2 i (goodsN V) := ⟨_, rfl⟩
              rw [← hz] at hsm v1 v2
              obtain ⟨s1, s2, s3⟩ := hsm
              have hlow : lowB z.num z.den = true := by
                have hd := den_pos z
                unfold lowB
                rw [decide_eq_true (by omega), decide_eq_true (by omega), rat_lowest z]
                rfl
              have HLO := Lib.hid fun w' => rlowest_any z.num z.den w' (by omega) (by omega) (by omega)
              rw [hlow] at HLO
              have n4 : ¬ (1073741824 : Int) < z.num := by omega
              have n5 : ¬ (1073741824 : Int) < (z.den : Int) := by omega
              have l3 : (i : Int) < (n : Int) + 1 := by omega
              have l4 : (0 : Int) ≤ (i : Int) := by omega
              obtain ⟨w17, hw17⟩ : ∃ w17, w17 = wo.alloc (.cells #[.int .i64 z.num, .int .i64 (z.den : Int)] 37) := ⟨_, rfl⟩
              have hX17 : Blk w17 wo.heap.size 37 #[.int .i64 z.num, .int .i64 (z.den : Int)] := by rw [hw17]; exact Blk.new _ _ _ rfl
              have hb17 : Below wo.heap.size wo w17 := by rw [hw17]; exact (Below.refl _ _).alloc (Nat.le_refl _) _
              have HZ := Lib.hid (And.intro hz (And.intro hX17 hb17))
              clear hz hX17 hb17 hlow s1 s2 s3
              go_upto_region 19 with fail
              rw [← hw17]
              clear hw17 v1 v2
              obtain ⟨y0, y1, _, _⟩ := HZ.out.2.1.at2
              have d1 : ∀ s : Desc w17, s.val.cell? ⟨wo.heap.size, 0, none⟩ = some (.int .i64 z.num) := fun s => s.cell y0
              have d2 : ∀ s : Desc w17, s.val.cell? ⟨wo.heap.size, 1, none⟩ = some (.int .i64 (z.den : Int)) := fun s => s.cell y1
              have HLD : Hid (∀ sd : Desc w17, Calls Try.prog 21 #[.agg #[.int .i64 z.num, .int .i64 (z.den : Int)]] sd.val fun e w'' => e = .returned (.bool true) ∧ ∃ s' : Desc w17, w'' = s'.val) := Lib.hid fun sd => Calls.desc_of (HLO.out _)
              clear y0 y1
              by_cases h0 : i = 0
              · have l0 : decide ((0 : Int) < (i : Int)) = false := decide_eq_false (by omega)
                have l0b : decide (0 < i) = false := decide_eq_false (by omega)
                have l0c : ¬ 0 < i := by omega
                clear h0
                refine wp_region_desc (by kernel_rfl) (by kernel_rfl) ?_
                repeat (go_big_quiet_step (first | (go_at_call 21; exact HLD.out _)))
                refine wpQuiet_nil ?_
                rintro _ ⟨sd, rfl⟩
                have HB18 := Lib.hid (HR.out.trans ((HZ.out.2.2.trans (sd.below.mono HZ.out.2.2.size)).mono HR.out.size))
                clear d1 d2
                go_wp2_with fail
                go_roundw
                case rel => exact ⟨i + 1, by omega, by go_num, HB18.out⟩
                case measure => simp [intOf]; omega
              · have l0 : decide ((0 : Int) < (i : Int)) = true := decide_eq_true (by omega)
                have l0b : decide (0 < i) = true := decide_eq_true (by omega)
                have l0c : 0 < i := by omega
                by_cases hn : i < n
                · have l5 : (i : Int) < (n : Int) := by omega
                  have l5b : decide ((i : Int) < (n : Int)) = true := decide_eq_true l5
                  have l5c : decide (i < n) = true := decide_eq_true hn
                  obtain ⟨v1, v2⟩ := HCW.out.1 i hn
                  have hso := spl_other HP.out.1 (by rw [← HB.out.2]; exact HY.out) HR'.out.1 (i := i) (by omega) (by omega)
                  rw [← HZ.out.1] at hso
                  rw [← hso] at v1 v2
                  have d3 : ∀ s : Desc w17, s.val.cell? (aW.add (i * 2)) = some (.int .i64 z.num) := fun s => s.cell ((HZ.out.2.2.cell (lt_of_cell v1)).trans v1)
                  have d4 : ∀ s : Desc w17, s.val.cell? ⟨(aW.add (i * 2)).block, (aW.add (i * 2)).off + 1, none⟩ = some (.int .i64 (z.den : Int)) := fun s => s.cell ((HZ.out.2.2.cell (lt_of_cell v2)).trans v2)
                  clear v1 v2 hso h0
                  refine wp_region_desc (by kernel_rfl) (by kernel_rfl) ?_
                  repeat (go_big_quiet_step (first | (go_at_call 21; exact HLD.out _)))
                  refine wpQuiet_nil ?_
                  rintro _ ⟨sd, rfl⟩
                  have HB18 := Lib.hid (HR.out.trans ((HZ.out.2.2.trans (sd.below.mono HZ.out.2.2.size)).mono HR.out.size))
                  clear d1 d2 d3 d4
                  go_wp2_with fail
                  go_roundw
                  case rel => exact ⟨i + 1, by omega, by go_num, HB18.out⟩
                  case measure => simp [intOf]; omega
                · have l5 : ¬ (i : Int) < (n : Int) := by omega
                  have l5b : decide ((i : Int) < (n : Int)) = false := decide_eq_false l5
                  have l5c : decide (i < n) = false := decide_eq_false hn
                  clear h0
                  refine wp_region_desc (by kernel_rfl) (by kernel_rfl) ?_
                  repeat (go_big_quiet_step (first | (go_at_call 21; exact HLD.out _)))
                  refine wpQuiet_nil ?_
                  rintro _ ⟨sd, rfl⟩
                  have HB18 := Lib.hid (HR.out.trans ((HZ.out.2.2.trans (sd.below.mono HZ.out.2.2.size)).mono HR.out.size))
                  clear d1 d2
                  go_wp2_with fail
                  go_roundw
                  case rel => exact ⟨i + 1, by omega, by go_num, HB18.out⟩
                  case measure => simp [intOf]; omega
            · have hsum := spl_sum HP.out.1 (by rw [← HB.out.2]; exact HY.out) HR'.out.1
              rw [hnB] at hsum
              obtain ⟨v1, v2⟩ := HCW.out.2.1 0 (by omega)
              obtain ⟨v3, v4⟩ := HCW.out.2.1 n (by omega)
              obtain ⟨v5, v6⟩ := HCW.out.1 0 (by omega)
              obtain ⟨s1, s2, s3⟩ := HCW.out.2.2 0 (by omega)
              obtain ⟨t1, t2, t3⟩ := HCW.out.2.2 n (by omega)
              generalize worTo (splV V) r'.1 r'.2 0 (goodsN V) = z0 at *
              generalize worTo (splV V) r'.1 r'.2 n (goodsN V) = zn at *
              generalize worTo V r.1 r.2 0 (goodsN V) = z at *
              have ea : ∀ a : Addr, a.add (0 * 2) = a := fun a => by simp [Addr.add]
              rw [ea] at v1 v2 v5 v6
              have hd0 := den_pos z0
              have hdn := den_pos zn
              have q1 : z0.num * zn.den ≤ 480000 * 48000 := Int.mul_le_mul s2 t3 (by omega) (by omega)
              have q2 : zn.num * z0.den ≤ 480000 * 48000 := Int.mul_le_mul t2 s3 (by omega) (by omega)
              have q3 : (z0.den : Int) * zn.den ≤ 48000 * 48000 := Int.mul_le_mul s3 t3 (by omega) (by omega)
              have q4 : 0 ≤ z0.num * zn.den := Int.mul_nonneg (by omega) (by omega)
              have q5 : 0 ≤ zn.num * z0.den := Int.mul_nonneg (by omega) (by omega)
              have hadd : ∀ w', Calls Try.prog 31 #[.agg #[.int .i64 z0.num, .int .i64 (z0.den : Int)], .agg #[.int .i64 zn.num, .int .i64 (zn.den : Int)]] w' fun e w'' => e = .returned (.agg #[.int .i64 z.num, .int .i64 (z.den : Int)]) ∧ Below w'.heap.size w' w'' := fun w' => by
                have h1 := radd_raw z0 zn w' (by omega) (by omega) (by omega) (by omega) (by omega)
                rw [hsum] at h1
                exact h1
              have d1 : ∀ s : Desc wo, s.val.cell? aY = some (.int .i64 z0.num) := fun s => s.cell v1
              have d2 : ∀ s : Desc wo, s.val.cell? ⟨aY.block, aY.off + 1, none⟩ = some (.int .i64 (z0.den : Int)) := fun s => s.cell v2
              have d3 : ∀ s : Desc wo, s.val.cell? (aY.add (n * 2)) = some (.int .i64 zn.num) := fun s => s.cell v3
              have d4 : ∀ s : Desc wo, s.val.cell? ⟨(aY.add (n * 2)).block, (aY.add (n * 2)).off + 1, none⟩ = some (.int .i64 (zn.den : Int)) := fun s => s.cell v4
              have d5 : ∀ s : Desc wo, s.val.cell? aW = some (.int .i64 z.num) := fun s => s.cell v5
              have d6 : ∀ s : Desc wo, s.val.cell? ⟨aW.block, aW.off + 1, none⟩ = some (.int .i64 (z.den : Int)) := fun s => s.cell v6
              have HADD : Hid (∀ sd : Desc wo, Calls Try.prog 31 #[.agg #[.int .i64 z0.num, .int .i64 (z0.den : Int)], .agg #[.int .i64 zn.num, .int .i64 (zn.den : Int)]] sd.val fun e w'' => e = .returned (.agg #[.int .i64 z.num, .int .i64 (z.den : Int)]) ∧ ∃ s' : Desc wo, w'' = s'.val) := Lib.hid fun sd => Calls.desc_of (hadd sd.val)
              have HAW : Hid (∀ sd : Desc wo, Calls Try.prog 17 #[] sd.val fun e w'' => e = .returned (.bool true) ∧ ∃ s' : Desc wo, w'' = s'.val) := Lib.hid fun sd => Calls.desc_of (l4awake_any sd.val)
              have hws := HR.out.size
              have l6 : ¬ (i : Int) < (n : Int) + 1 := by omega
              have l7 : (n : Int) < (n : Int) + 1 := by omega
              have l8 : (0 : Int) < (n : Int) + 1 := by omega
              clear v1 v2 v3 v4 v5 v6 s1 s2 s3 t1 t2 t3 q1 q2 q3 q4 q5 hd0 hdn hadd ea hsum
              go_upto_region 22 with fail
              refine wp_region_desc (by kernel_rfl) (by kernel_rfl) ?_
              repeat (go_big_quiet_step (first | (go_at_call 31; exact HADD.out _) | (go_at_call 17; exact HAW.out _)))
              refine wpQuiet_nil ?_
              rintro _ ⟨sd, rfl⟩
              have HBE := Lib.hid (HC16.out.2.trans ((HR.out.trans (sd.below.mono hws)).mono HC16.out.2.size))
              clear d1 d2 d3 d4 d5 d6
              go_wp2_with fail
              go_ret
              exact ⟨rfl, HBE.out⟩
      · have n1 : ¬ (2 : Int) < (n : Int) := by omega
        have n2 : b0 < 2 := by omega
        have n3 : (0 : Int) < (n : Int) := by omega
        go_wp2_with fail
        refine (l4awake_any _).mono ?_
        rintro e w7 ⟨rfl, hb7⟩
        have HC7 := Lib.hid (HC6.out.next hb7)
        clear hb7
        go_wp2_with fail
        go_ret
        exact ⟨rfl, HC7.out.2⟩
    · have n1 : (2 : Int) < (n : Int) := by omega
      go_wp2_with fail
      refine (l4awake_any _).mono ?_
      rintro e w7 ⟨rfl, hb7⟩
      have HC7 := Lib.hid (HC6.out.next hb7)
      clear hb7
      go_wp2_with fail
      go_ret
      exact ⟨rfl, HC7.out.2⟩
end Go.Proofs.Ytnljnjnmhbkdoaa
