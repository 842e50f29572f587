/- Laws and contracts that the proof of MarketAlike uses, part 7. -/
import Derived.Test.YtnljnjnmhbkdoaaBaseM6
import Derived.Test.YtnljnjnmhbkdoaaBaseM2
import Derived.Test.YtnljnjnmhbkdoaaBaseM1
import Derived.Test.YtnljnjnmhbkdoaaProg
import Derived.Test.YtnljnjnmhbkdoaaBaseM5
namespace Go.Proofs.Ytnljnjnmhbkdoaa
open Go.RowKit

/- An int among a statement's arguments, opened. -/
open Go.ChangeShapes Go.WideShapes Go.ChangeAt Go.RowKit

section
variable {H : Type} {enc : TypeId × Value → H}
set_option maxRecDepth 100000 in
theorem open_intI {W : World} {v : Value} {d : DataW H} {p : List MemPlace} {spare : Nat → Bool} {b b0 : Nat} {r : Reach} (h : DataW.Trod enc Try.prog W b spare true 3 v d p) (hv : Value.okWide Try.prog W r b0 3 v) :
    ∃ i : Int, v = .int .i64 i ∧ -9223372036854775808 ≤ i ∧ i ≤ 9223372036854775807 := by
  obtain ⟨n, h1, _, _, h2⟩ := open_int Try.underlying3 hv h
  refine ⟨n, h1, ?_⟩
  simp [Lit.wf, IntKind.min, IntKind.max, IntKind.signed, IntKind.bits] at h2
  omega
end

/- Contract: slices.Equal of ints. -/

set_option maxHeartbeats 800000 in
theorem equal_any (A A' : Option Addr) (n n' cap cap' : Nat) (ps qs : List Int) (w : World) (hl : ps.length = n) (hl' : qs.length = n') (hm : n ≤ 9223372036854775807) (h : Ints w A ps) (h' : Ints w A' qs) :
    Calls Try.prog 34 #[.slice A n cap, .slice A' n' cap'] w fun e w' => e = .returned (.bool (eqB ps qs)) ∧ ∃ m, w' = w.drewN m := by
  by_cases hnn : n = n'
  · subst hnn
    by_cases h0 : n = 0
    · subst h0
      obtain rfl := List.eq_nil_of_length_eq_zero hl
      obtain rfl := List.eq_nil_of_length_eq_zero hl'
      go_enter Try.func34, Try.ntmps34
      go_wp2
      refine wp_loop_rounds 1 ?_
      rw [rounds_succ]
      go_wp2
      go_ret
      exact ⟨rfl, 0, rfl⟩
    · obtain ⟨ad, rfl, _, hc⟩ := h.some_ (by omega)
      obtain ⟨ad', rfl, _, hc'⟩ := h'.some_ (by omega)
      have H := Lib.hid (And.intro hl (And.intro hl' (And.intro hc hc')))
      clear hl hl' hc hc' h h'
      go_enter Try.func34, Try.ntmps34
      go_wp2
      go_loopw [13] (fun iv wr => ∃ k : Nat, k ≤ n ∧ iv = .int .i64 k ∧ ps.take k = qs.take k ∧ ∃ m, wr = w.drewN m) (fun iv _ => n - (intOf iv).toNat)
      case atStart => exact ⟨0, Nat.zero_le _, rfl, rfl, 0, rfl⟩
      case round =>
        obtain ⟨k, hk, rfl, ht, m, rfl⟩ := hrel
        have HT := Lib.hid ht
        clear ht
        obtain ⟨hl, hl', hc, hc'⟩ := H.out
        by_cases hlt : k < n
        · obtain ⟨p, hp⟩ : ∃ p, ps[k]? = some p := ⟨_, List.getElem?_eq_getElem (by omega)⟩
          obtain ⟨q, hq⟩ : ∃ q, qs[k]? = some q := ⟨_, List.getElem?_eq_getElem (by omega)⟩
          have c1 := hc k p hp
          have c2 := hc' k q hq
          have HP := Lib.hid (And.intro hp hq)
          clear hp hq hc hc' hl hl'
          by_cases he : p = q
          · subst he
            go_wp2_with fail
            go_quiet (fail)
            go_wp2_with fail
            go_roundw
            case rel => exact ⟨k + 1, by omega, by go_num, take_eq_succ HP.out.1 HP.out.2 HT.out, by first | exact ⟨_, rfl⟩ | exact ⟨_, World.drewN_drewN _ _ _⟩⟩
            case measure => simp [intOf]; omega
          · have hne : (p != q) = true := by simpa using he
            have HNE := Lib.hid he
            clear he
            go_wp2_with fail
            go_quiet (fail)
            go_wp2_with fail
            go_ret
            exact ⟨ret_bool (eqB_at HP.out.1 HP.out.2 HNE.out).symm, by first | exact ⟨_, rfl⟩ | exact ⟨_, World.drewN_drewN _ _ _⟩⟩
        · obtain rfl : k = n := by omega
          have HF : Hid (eqB ps qs = true) := Lib.hid (eqB_all hl hl' HT.out)
          clear hl hl' hc hc'
          go_wp2
          go_ret
          exact ⟨ret_bool HF.out.symm, m, rfl⟩
  · have HF : Hid (eqB ps qs = false) := Lib.hid (eqB_len (by omega))
    have hne : ((n : Int) != (n' : Int)) = true := by rw [bne_iff_ne]; omega
    clear hl hl' h h'
    go_enter Try.func34, Try.ntmps34
    go_wp2
    go_ret
    exact ⟨ret_bool HF.out.symm, 0, rfl⟩

/- MarketWants: the walk. -/

theorem I64s.take {ps : List (Int × Int)} (h : I64s ps) (k : Nat) : I64s (ps.take k) := fun p hp => h p (List.mem_of_mem_take hp)
theorem prsOk_take {B : List Int} {V : List (List Int)} (hv : validM B V = true) (ps : List (Int × Int)) : prsOk V (ps.take 6) = prsOk V ps := by
  have hg := (validM_iff.1 hv).2.1.2
  by_cases h : ps.length ≤ 6
  · rw [List.take_of_length_le h]
  · unfold prsOk
    rw [decide_eq_false (show ¬ (ps.take 6).length = goodsN V by rw [List.length_take]; omega), decide_eq_false (show ¬ ps.length = goodsN V by omega), Bool.and_false, Bool.and_false]
theorem prs_small {B : List Int} {V : List (List Int)} (hv : validM B V = true) {ps : List (Int × Int)} (h : prsOk V ps = true) : ps.length = goodsN V ∧ ps.take 6 = ps ∧ ps.all (okF 1) = true := by
  have hg := (validM_iff.1 hv).2.1.2
  unfold prsOk at h
  rw [Bool.and_eq_true, decide_eq_true_eq] at h
  exact ⟨h.2, List.take_of_length_le (by omega), h.1⟩
theorem wantF_none {B : List Int} {V : List (List Int)} {ps : List (Int × Int)} (h : validM B V = false ∨ prsOk V ps = false) : wantF B V (ps.take 6) = none := by
  unfold wantF
  cases hv : validM B V with
  | false => rfl
  | true =>
    rcases h with h | h
    · rw [hv] at h; cases h
    · rw [prsOk_take hv, h]; rfl
theorem wantF_yes {B : List Int} {V : List (List Int)} {ps : List (Int × Int)} (hv : validM B V = true) (h : prsOk V ps = true) : wantF B V (ps.take 6) = some ((List.range B.length).map fun i => wantS (rowV V i) (toQ ps)) := by
  unfold wantF
  rw [prsOk_take hv, hv, h, (prs_small hv h).2.1]
  rfl
set_option maxRecDepth 100000 in
set_option maxHeartbeats 4000000 in
theorem law_mwants (A : Option Addr) (n c : Nat) (U : Option Addr) (m d : Nat) (B : List Int) (V : List (List Int)) (P : Option Addr) (cp : Nat) (ps : List (Int × Int)) (W : World) (hK : MktArg W A n c U m d B V) (hpc : ps.length ≤ cp) (hpm : cp ≤ 9223372036854775807) (hP : Prs W P ps) (hi : I64s ps) :
    Calls Try.prog 10 #[mktV A n c U m d, .slice P ps.length cp] W fun e w' => e = .returned (.bool true) ∧ Below W.heap.size W w' := by
  have hC1 := Ch.start W A n c U m d
  obtain ⟨w1, hw1⟩ : ∃ w1, w1 = W.alloc (.cells #[.slice A n c, .slice U m d] 25) := ⟨_, rfl⟩
  rw [← hw1] at hC1
  obtain ⟨lp, hlp⟩ : ∃ lp, lp = ps.length := ⟨_, rfl⟩
  rw [← hlp] at hpc ⊢
  have HK := Lib.hid (And.intro hK (And.intro hP (And.intro hi hlp)))
  have HC1 := Lib.hid hC1
  obtain ⟨m1, m2, _, _⟩ := hC1.1.at2
  clear hK hC1 hP hi hlp
  unfold mktV
  go_enter Try.func10, Try.ntmps10
  go_wp2_with fail
  rw [← hw1]
  clear hw1
  refine ((HK.out.1.below HC1.out.2).of).mono ?_
  rintro e w2 ⟨A2, n2, c2, U2, q2, d2, b2, vs2, rfl, hO2⟩
  have HC2 := Lib.hid (HC1.out.next hO2.below)
  have HO2 := Lib.hid hO2
  clear hO2 m1 m2
  go_wp2_with fail
  refine (l4prices_any P lp cp ps w2 HK.out.2.2.2.symm hpc hpm (HK.out.2.1.below HC2.out.2)).mono ?_
  rintro e w3 ⟨A3, c3, rfl, hown3, hb3⟩
  have HC3 := Lib.hid (HC2.out.next hb3)
  have hl3 : (ps.take 6).length = min lp 6 := by rw [List.length_take, HK.out.2.2.2]; omega
  obtain ⟨l3, hl3'⟩ : ∃ l3, l3 = min lp 6 := ⟨_, rfl⟩
  rw [← hl3'] at hl3 ⊢
  have h36 : l3 ≤ 6 := by omega
  have HW := Lib.hid (of_want HO2.out hb3 A3 l3 c3 (ps.take 6) (At.of_own hown3) hl3 (by omega) (HK.out.2.2.1.take 6))
  clear hown3 hb3 hl3 hl3'
  go_wp2_with fail
  refine HW.out.mono ?_
  intro ev w4 hpost
  unfold WantPost at hpost
  obtain ⟨hb4, hpost⟩ := hpost
  have HC4 := Lib.hid (HC3.out.next hb4)
  obtain ⟨m1, m2, _, _⟩ := HC4.out.1.at2
  clear hb4 HW
  have HV := Lib.hid (HK.out.1.below HC4.out.2).valid
  cases hv : validM B V with
  | false =>
    rw [wantF_none (.inl hv)] at hpost
    subst hpost
    rw [hv] at HV
    clear hv
    go_wp2_with fail
    refine HV.out.mono ?_
    rintro e w5 ⟨rfl, hb5⟩
    have HC5 := Lib.hid (HC4.out.next hb5)
    clear hb5
    go_wp2_with fail
    refine (l4awake_any _).mono ?_
    rintro e w6 ⟨rfl, hb6⟩
    have HC6 := Lib.hid (HC5.out.next hb6)
    clear hb6
    go_wp2_with fail
    go_ret
    exact ⟨rfl, HC6.out.2⟩
  | true =>
    have HVA := Lib.hid hv
    rw [hv] at HV
    cases hpk : prsOk V ps with
    | false =>
      rw [wantF_none (.inr hpk)] at hpost
      subst hpost
      have HPK := Lib.hid hpk
      clear hv hpk
      go_wp2_with fail
      refine HV.out.mono ?_
      rintro e w5 ⟨rfl, hb5⟩
      have HC5 := Lib.hid (HC4.out.next hb5)
      clear hb5 m1 m2
      obtain ⟨m1, m2, _, _⟩ := HC5.out.1.at2
      have HRP := Lib.hid (r4prices_any A n c U m d P cp B V ps w5 (HK.out.1.mkt.below HC5.out.2) (by have := (validM_iff.1 HVA.out).1; have := HK.out.1.mkt.hV; omega) (HK.out.2.1.below HC5.out.2) (by rw [← HK.out.2.2.2]; omega) HK.out.2.2.1)
      rw [← HK.out.2.2.2, HPK.out] at HRP
      go_wp2_with fail
      refine HRP.out.mono ?_
      rintro e w6 ⟨rfl, hb6⟩
      have HC6 := Lib.hid (HC5.out.next hb6)
      clear hb6
      go_wp2_with fail
      refine (l4awake_any _).mono ?_
      rintro e w7 ⟨rfl, hb7⟩
      have HC7 := Lib.hid (HC6.out.next hb7)
      clear hb7
      go_wp2_with fail
      go_ret
      exact ⟨rfl, HC7.out.2⟩
    | true =>
      rw [wantF_yes hv hpk] at hpost
      obtain ⟨A5, c5, rfl, hat⟩ := hpost
      have hsm := prs_small hv hpk
      have HPK := Lib.hid (And.intro hpk hsm)
      have hBn := HK.out.1.mkt.hB
      have e1 : ((List.range B.length).map fun i => wantS (rowV V i) (toQ ps)).length = n := by rw [List.length_map, List.length_range]; exact hBn
      rw [e1]
      have HAT := Lib.hid hat
      clear hv hpk hat e1 hsm
      go_wp2_with fail
      refine HV.out.mono ?_
      rintro e w5 ⟨rfl, hb5⟩
      have HC5 := Lib.hid (And.intro (HC4.out.next hb5) hb5)
      clear hb5 m1 m2
      obtain ⟨m1, m2, _, _⟩ := HC5.out.1.1.at2
      have HRP := Lib.hid (r4prices_any A n c U m d P cp B V ps w5 (HK.out.1.mkt.below HC5.out.1.2) (by have := (validM_iff.1 HVA.out).1; have := HK.out.1.mkt.hV; omega) (HK.out.2.1.below HC5.out.1.2) (by rw [← HK.out.2.2.2]; omega) HK.out.2.2.1)
      rw [← HK.out.2.2.2, HPK.out.1] at HRP
      go_wp2_with fail
      refine HRP.out.mono ?_
      rintro e w6 ⟨rfl, hb6⟩
      have HC6 := Lib.hid (And.intro (HC5.out.1.next hb6) (HC5.out.2.trans (hb6.mono HC5.out.2.size)))
      clear hb6 m1 m2
      obtain ⟨m1, m2, _, _⟩ := HC6.out.1.1.at2
      obtain ⟨rfl, hmk⟩ := mkIn_of (HK.out.1.mkt.below HC6.out.1.2) HVA.out
      have hl : lp = goodsN V := by rw [HK.out.2.2.2]; exact HPK.out.2.1
      have HRW := Lib.hid (r4want_any A m c U d (goodsN V) cp P B V (toQ ps) w6 hmk (by
        unfold Go.Proofs.Ytnljnjnmhbkdoaa.Fracs
        rw [toQ_pr HPK.out.2.2.2]
        exact HK.out.2.1.below HC6.out.1.2) (by rw [toQ_length]; exact HPK.out.2.1) (toQ_ok HPK.out.2.2.2))
      rw [← hl] at HRW
      have hm3 := hmk.hn
      clear hl hmk
      go_wp2_with fail
      refine HRW.out.mono ?_
      rintro e w7 ⟨A7, c7, rfl, hat7, hb7⟩
      have HC7 := Lib.hid (HC6.out.1.next hb7)
      have hat5 := (HAT.out.below HC6.out.2).below hb7
      have e2 : ((List.range B.length).map fun i => wantS (rowV V i) (toQ ps)).map (fun (s : Nat) => Value.int .i64 (s : Int)) = ((List.range m).map fun i => ((wantS (rowV V i) (toQ ps) : Nat) : Int)).map (Value.int .i64) := by rw [List.map_map, List.map_map, hBn]; rfl
      have e3 : wantV V (toQ ps) m = ((List.range m).map fun i => ((wantS (rowV V i) (toQ ps) : Nat) : Int)).map (Value.int .i64) := by unfold wantV; rw [List.map_map]; rfl
      rw [e2] at hat5
      rw [e3] at hat7
      have HEQ := Lib.hid (equal_any A5 A7 m m c5 c7 _ _ w7 (by simp) (by simp) (by omega) hat5 hat7)
      clear hat5 hat7 e2 e3 hb7 m1 m2
      go_wp2_with fail
      refine HEQ.out.mono ?_
      rintro e w8 ⟨rfl, m8, rfl⟩
      have HC8 : Hid (Below W.heap.size W (w7.drewN m8)) := Lib.hid (below_drewN HC7.out.2 m8)
      rw [show ∀ l : List Int, eqB l l = true from fun l => decide_eq_true rfl]
      clear HEQ
      go_wp2_with fail
      refine (l4awake_any _).mono ?_
      rintro e w9 ⟨rfl, hb9⟩
      have HC9 := Lib.hid (HC8.out.trans (hb9.mono HC8.out.size))
      clear hb9
      go_wp2_with fail
      go_ret
      exact ⟨rfl, HC9.out⟩

/- What Check says of what Prices and Spend return, and of others: laws. -/

section
variable {B : List Int} {V : List (List Int)} {r : List Rat × List (List Rat)}
theorem sps_okF (hP : prF B V = some r) {x : List Rat} (hx : x ∈ r.2) : (x.map pr).all (okF 0) = true := by
  obtain ⟨hv, hs⟩ := prF_ok hP
  have hE := hs.equi hv
  rw [List.all_eq_true]
  intro y hy
  obtain ⟨q, hq, rfl⟩ := List.mem_map.1 hy
  obtain ⟨i, hi⟩ := List.getElem?_of_mem hx
  obtain ⟨g, hg⟩ := List.getElem?_of_mem hq
  have hil : i < B.length := by rw [← hs.ls]; exact (List.getElem?_eq_some_iff.1 hi).1
  have hgl : g < goodsN V := by rw [← hs.lr x hx]; exact (List.getElem?_eq_some_iff.1 hg).1
  have hq0 : 0 ≤ q := by
    have h1 := hE.nn i g hil hgl
    unfold spd rowQ at h1
    rw [List.getD_eq_getElem?_getD, List.getD_eq_getElem?_getD, hi] at h1
    simp only [Option.getD_some] at h1
    rwa [hg] at h1
  obtain ⟨a1, a2, a3⟩ := hs.ss x hx q hq
  have hd := den_pos q
  exact okF_iff.2 ⟨Rat.num_nonneg.2 hq0, by omega, by omega, by omega, rat_lowest q⟩
theorem sps_i64 (hP : prF B V = some r) {x : List (Int × Int)} (hx : x ∈ r.2.map (·.map pr)) : I64s x := by
  obtain ⟨hv, hs⟩ := prF_ok hP
  obtain ⟨y, hy, rfl⟩ := List.mem_map.1 hx
  intro z hz
  obtain ⟨q, hq, rfl⟩ := List.mem_map.1 hz
  obtain ⟨a1, a2, a3⟩ := hs.ss y hy q hq
  have hd := den_pos q
  simp only [pr]
  omega
theorem chk_sol (hP : prF B V = some r) : chkB B V (r.1.map pr) (r.2.map (·.map pr)) = true := by
  obtain ⟨hv, hs⟩ := prF_ok hP
  have e2 : (r.2.map (·.map pr)).map toQ = r.2 := by
    rw [List.map_map]
    conv => rhs; rw [← List.map_id r.2]
    exact List.map_congr_left fun x _ => toQ_of_pr x
  have h1 : prsOk V (r.1.map pr) = true := by
    unfold prsOk
    rw [prices_okF hs.ps, List.length_map, decide_eq_true hs.lp]
    rfl
  have h2 : (r.2.map (·.map pr)).all (rowSp V) = true := by
    rw [List.all_eq_true]
    intro x hx
    obtain ⟨y, hy, rfl⟩ := List.mem_map.1 hx
    unfold rowSp
    rw [sps_okF hP hy, List.length_map, decide_eq_true (hs.lr y hy)]
    rfl
  unfold chkB
  rw [h1, h2, List.length_map, decide_eq_true hs.ls, e2, toQ_of_pr, hs.bal]
  rfl
theorem chk_only (hP : prF B V = some r) {ps : List (Int × Int)} {L : List (List (Int × Int))} (h : chkB B V ps L = true) : ps = r.1.map pr := by
  obtain ⟨hv, hs⟩ := prF_ok hP
  obtain ⟨hm, h2, h3⟩ := mkOk_of hv
  unfold chkB at h
  simp only [Bool.and_eq_true, decide_eq_true_eq] at h
  obtain ⟨hp, _, _, hb⟩ := h
  unfold prsOk at hp
  rw [Bool.and_eq_true, decide_eq_true_eq] at hp
  have hl : (toQ ps).length = goodsN V := by rw [toQ_length]; exact hp.2
  have hE := (bal_equi rfl hl (fun q hq => (toQ_ok hp.1 q hq).pos) h2 (fun i g => (h3 i g).1)).1 hb
  have hu := hE.unique (hs.equi hv) hm.un hm.us
  have e : toQ ps = r.1 := by
    apply List.ext_getElem?
    intro g
    by_cases hg : g < goodsN V
    · have h4 := hu g hg
      unfold priQ at h4
      rw [List.getD_eq_getElem?_getD, List.getD_eq_getElem?_getD] at h4
      rw [List.getElem?_eq_getElem (by omega), List.getElem?_eq_getElem (by rw [hs.lp]; exact hg)] at h4 ⊢
      simp only [Option.getD_some] at h4
      rw [h4]
    · rw [List.getElem?_eq_none (by omega), List.getElem?_eq_none (by rw [hs.lp]; omega)]
  rw [← e, toQ_pr hp.1]
/-- The prices sum to the budgets. -/
theorem sum_prices (hP : prF B V = some r) : sumF (priQ r.1) (goodsN V) = ((sumZ (fun i => B.getD i 0) B.length : Int) : Rat) := by
  obtain ⟨hv, hs⟩ := prF_ok hP
  have hE := hs.equi hv
  rw [sumF_Q, ← sumZ_Q]
  show sumQ (priQ r.1) (goodsN V) = sumQ (budQ B) B.length
  rw [← sumQ_congr fun i hi => hE.row i hi, sq_swap]
  exact (sumQ_congr fun g hg => hE.col g hg).symm
end

/- Multiplied uses and budgets: laws of MarketUnits. -/

section
variable {n k : Nat} {b : Nat → Rat} {u : Nat → Nat → Rat} {p : Nat → Rat} {s : Nat → Nat → Rat}
theorem Equi.useMul (h : Equi n k b u p s) {c : Nat → Rat} (hc : ∀ i, i < n → 0 < c i) : Equi n k b (fun i g => c i * u i g) p s := by
  refine ⟨h.pos, h.nn, h.row, h.col, fun i g hi hg hs x hx => ?_⟩
  have h1 := Rat.mul_le_mul_of_nonneg_left (c := c i) (h.want i g hi hg hs x hx) (Rat.le_of_lt (hc i hi))
  have e1 : c i * u i x * p g = c i * (u i x * p g) := by grind
  have e2 : c i * u i g * p x = c i * (u i g * p x) := by grind
  rw [e1, e2]
  exact h1
theorem Equi.congrU {u' : Nat → Nat → Rat} (h : Equi n k b u p s) (hu : ∀ i g, i < n → g < k → u i g = u' i g) : Equi n k b u' p s := by
  refine ⟨h.pos, h.nn, h.row, h.col, fun i g hi hg hs x hx => ?_⟩
  rw [← hu i g hi hg, ← hu i x hi hx]
  exact h.want i g hi hg hs x hx
theorem Equi.budMul (h : Equi n k b u p s) {c : Rat} (hc : 0 < c) : Equi n k (fun i => c * b i) u (fun g => c * p g) (fun i g => c * s i g) where
  pos := fun g hg => Rat.mul_pos hc (h.pos g hg)
  nn := fun i g hi hg => Rat.mul_nonneg (Rat.le_of_lt hc) (h.nn i g hi hg)
  row := fun i hi => by rw [sumQ_mul, h.row i hi]
  col := fun g hg => by rw [sumQ_mul, h.col g hg]
  want := fun i g hi hg hs x hx => by
    have h1 := h.want i g hi hg (fun h0 => hs (by rw [h0, Rat.mul_zero])) x hx
    have h2 := Rat.mul_le_mul_of_nonneg_left (c := c) h1 (Rat.le_of_lt hc)
    have e1 : u i x * (c * p g) = c * (u i x * p g) := by grind
    have e2 : u i g * (c * p x) = c * (u i g * p x) := by grind
    rw [e1, e2]
    exact h2
end
theorem rowV_setM {V : List (List Int)} {p i : Nat} {r : List Int} (hp : p < V.length) : rowV (V.set p r) i = if p = i then r else rowV V i := by
  unfold rowV
  rw [List.getD_eq_getElem?_getD, List.getElem?_set]
  by_cases e : p = i
  · subst e; rw [if_pos rfl, if_pos hp, if_pos rfl]; rfl
  · rw [if_neg e, if_neg e, List.getD_eq_getElem?_getD]
theorem prices_eq {r r' : List Rat} {k : Nat} (hl : r.length = k) (hl' : r'.length = k) (h : ∀ g, g < k → priQ r g = priQ r' g) : r = r' := by
  apply List.ext_getElem?
  intro g
  by_cases hg : g < k
  · have h4 := h g hg
    unfold priQ at h4
    rw [List.getD_eq_getElem?_getD, List.getD_eq_getElem?_getD] at h4
    rw [List.getElem?_eq_getElem (by omega), List.getElem?_eq_getElem (by omega)] at h4 ⊢
    simp only [Option.getD_some] at h4
    rw [h4]
  · rw [List.getElem?_eq_none (by omega), List.getElem?_eq_none (by omega)]
section
variable {B : List Int} {V : List (List Int)} {r r' : List Rat × List (List Rat)}
theorem goodsN_set {p : Nat} {c : Int} (hp : p < V.length) : goodsN (V.set p ((rowV V p).map (c * ·))) = goodsN V := by
  show (rowV (V.set p ((rowV V p).map (c * ·))) 0).length = (rowV V 0).length
  rw [rowV_setM hp]
  by_cases e : p = 0
  · subst e; rw [if_pos rfl, List.length_map]
  · rw [if_neg e]
theorem useN_set {p : Nat} {c : Int} (hp : p < V.length) (i g : Nat) : useN (V.set p ((rowV V p).map (c * ·))) i g = (if p = i then c else 1) * useN V i g := by
  unfold useN
  rw [rowV_setM hp]
  by_cases e : p = i
  · subst e
    rw [if_pos rfl, if_pos rfl, List.getD_eq_getElem?_getD, List.getD_eq_getElem?_getD, List.getElem?_map]
    cases (rowV V p)[g]? <;> simp
  · rw [if_neg e, if_neg e, Int.one_mul]
/-- A buyer's uses multiplied: the prices stay. -/
theorem units_use (h : prF B V = some r) {p : Nat} (hp : p < B.length) {c : Int} (hc : 1 ≤ c) (h' : prF B (V.set p ((rowV V p).map (c * ·))) = some r') : r'.1 = r.1 := by
  obtain ⟨hv, hs⟩ := prF_ok h
  obtain ⟨hv', hs'⟩ := prF_ok h'
  have hpV : p < V.length := by have := (validM_iff.1 hv).1.2.2.2; omega
  obtain ⟨hm, _, _⟩ := mkOk_of hv'
  have hE' := hs'.equi hv'
  have hl' := hs'.lp
  rw [goodsN_set hpV] at hE' hm hl'
  have hE := ((hs.equi hv).useMul (c := fun i => (((if p = i then c else 1) : Int) : Rat)) (fun i _ => by
    have : (0 : Int) < if p = i then c else 1 := by split <;> omega
    exact_mod_cast this)).congrU (u' := useQ (V.set p ((rowV V p).map (c * ·)))) (fun i g _ _ => by
      unfold useQ
      rw [useN_set hpV, Rat.intCast_mul])
  exact prices_eq hl' hs.lp fun g hg => hE'.unique hE hm.un hm.us g hg
/-- All budgets multiplied: so are the prices. -/
theorem units_bud (h : prF B V = some r) {c : Int} (hc : 1 ≤ c) (h' : prF (B.map (· * c)) V = some r') : r'.1.length = r.1.length ∧ ∀ (g : Nat) (q q' : Rat), r.1[g]? = some q → r'.1[g]? = some q' → q' = q * (c : Rat) := by
  obtain ⟨hv, hs⟩ := prF_ok h
  obtain ⟨hv', hs'⟩ := prF_ok h'
  obtain ⟨hm, _, _⟩ := mkOk_of hv'
  have hE' := hs'.equi hv'
  rw [List.length_map] at hE' hm
  have hE := ((hs.equi hv).budMul (c := (c : Rat)) (by exact_mod_cast (show (0 : Int) < c by omega))).congr (b' := budQ (B.map (· * c))) (fun i hi => by
    unfold budQ
    rw [List.getD_eq_getElem?_getD, List.getD_eq_getElem?_getD, List.getElem?_map, List.getElem?_eq_getElem hi]
    simp only [Option.map_some, Option.getD_some]
    rw [Rat.intCast_mul, Rat.mul_comm])
  refine ⟨by rw [hs'.lp, hs.lp], fun g q q' hq hq' => ?_⟩
  have hg : g < goodsN V := by rw [← hs.lp]; exact (List.getElem?_eq_some_iff.1 hq).1
  have h1 := hE'.unique hE hm.un hm.us g hg
  unfold priQ at h1
  rw [List.getD_eq_getElem?_getD, List.getD_eq_getElem?_getD, hq, hq'] at h1
  simp only [Option.getD_some] at h1
  rw [h1, Rat.mul_comm]
end

/- Goods that are alike, and buyers and goods renamed: laws of MarketAlike. -/

section
variable {B : List Int} {V : List (List Int)} {r r' : List Rat × List (List Rat)}
theorem alike_le (h : prF B V = some r) {g x : Nat} (hg : g < goodsN V) (hx : x < goodsN V) (hu : ∀ i, i < B.length → useN V i g = useN V i x) : priQ r.1 g ≤ priQ r.1 x := by
  obtain ⟨hv, hs⟩ := prF_ok h
  obtain ⟨hm, _, _⟩ := mkOk_of hv
  have hE := hs.equi hv
  by_cases hle : priQ r.1 g ≤ priQ r.1 x
  · exact hle
  exfalso
  have hex : ∃ i, i < B.length ∧ spd r.2 i g ≠ 0 := by
    by_cases hex : ∃ i, i < B.length ∧ spd r.2 i g ≠ 0
    · exact hex
    · exfalso
      have h1 := hE.col g hg
      rw [sumQ_zero fun i hi => by
        by_cases h0 : spd r.2 i g = 0
        · exact h0
        · exact absurd ⟨i, hi, h0⟩ hex] at h1
      have := hE.pos g hg
      grind
  obtain ⟨i, hi, hs0⟩ := hex
  have h1 := hE.want i g hi hg hs0 x hx
  have h2 := hE.use hm.us hi hg hs0
  have h3 : useQ V i g = useQ V i x := by unfold useQ; rw [hu i hi]
  rw [← h3] at h1
  have h4 : 0 < useQ V i g * (priQ r.1 g - priQ r.1 x) := Rat.mul_pos h2 (by grind)
  grind
theorem alike_eq (h : prF B V = some r) {g x : Nat} (hg : g < goodsN V) (hx : x < goodsN V) (hu : ∀ i, i < B.length → useN V i g = useN V i x) : priQ r.1 g = priQ r.1 x :=
  Rat.le_antisymm (alike_le h hg hx hu) (alike_le h hx hg fun i hi => (hu i hi).symm)
end
theorem mod2 {a n : Nat} (h : a < 2 * n) : a % n = if a < n then a else a - n := by
  by_cases h1 : a < n
  · rw [if_pos h1, Nat.mod_eq_of_lt h1]
  · rw [if_neg h1, Nat.mod_eq_sub_mod (by omega), Nat.mod_eq_of_lt (by omega)]
/-- Where what now stands at j stood. -/
def back (n c j : Nat) : Nat := (j + n - c) % n
theorem back_lt {n c j : Nat} (h : 0 < n) : back n c j < n := Nat.mod_lt _ h
theorem back_to {n c i : Nat} (hc : c < n) (hi : i < n) : back n c ((i + c) % n) = i := by
  unfold back
  rw [mod2 (a := i + c) (by omega)]
  split
  · rw [mod2 (by omega)]; split <;> omega
  · rw [mod2 (by omega)]; split <;> omega
theorem to_back {n c j : Nat} (hc : c < n) (hj : j < n) : (back n c j + c) % n = j := by
  unfold back
  rw [mod2 (a := j + n - c) (by omega)]
  split
  · rw [mod2 (by omega)]; split <;> omega
  · rw [mod2 (by omega)]; split <;> omega
theorem back_inj {n c i j : Nat} (hc : c < n) (hj : j < n) (h : back n c j = i) : j = (i + c) % n := by rw [← h, to_back hc hj]
theorem sumQ_back {n c : Nat} (hn : 1 ≤ n ∧ n ≤ 3) (hc : c < n) (f : Nat → Rat) : sumQ (fun j => f (back n c j)) n = sumQ f n := by
  have h1 : n = 1 ∨ n = 2 ∨ n = 3 := by omega
  have h2 : c = 0 ∨ c = 1 ∨ c = 2 := by omega
  rcases h1 with rfl | rfl | rfl <;> rcases h2 with rfl | rfl | rfl <;> first | omega | rfl | (show (0 : Rat) + f 1 + f 0 = 0 + f 0 + f 1; grind) | (show (0 : Rat) + f 2 + f 0 + f 1 = 0 + f 0 + f 1 + f 2; grind) | (show (0 : Rat) + f 1 + f 2 + f 0 = 0 + f 0 + f 1 + f 2; grind)
/-- Turned round by c. -/
def rotL {α : Type} (n c : Nat) (xs : List α) (d : α) : List α := (List.range n).map fun j => xs.getD (back n c j) d
theorem rotL_length {α : Type} (n c : Nat) (xs : List α) (d : α) : (rotL n c xs d).length = n := by simp [rotL]
theorem rotL_get {α : Type} {n c : Nat} {xs : List α} {d : α} {j : Nat} (hj : j < n) : (rotL n c xs d)[j]? = some (xs.getD (back n c j) d) := by
  unfold rotL
  rw [List.getElem?_map, List.getElem?_range hj]; rfl
theorem rotL_getD {α : Type} {n c : Nat} {xs : List α} {d e : α} {j : Nat} (hj : j < n) : (rotL n c xs d).getD j e = xs.getD (back n c j) d := by
  rw [List.getD_eq_getElem?_getD, rotL_get hj]; rfl
def rotV (n c k d : Nat) (V : List (List Int)) : List (List Int) := (List.range n).map fun j => rotL k d (rowV V (back n c j)) 0
theorem rotV_row {n c k d : Nat} {V : List (List Int)} {j : Nat} (hj : j < n) : rowV (rotV n c k d V) j = rotL k d (rowV V (back n c j)) 0 := by
  unfold rotV
  refine rowV_get ?_
  rw [List.getElem?_map, List.getElem?_range hj]; rfl
theorem rotV_use {n c k d : Nat} {V : List (List Int)} {j g : Nat} (hj : j < n) (hg : g < k) : useN (rotV n c k d V) j g = useN V (back n c j) (back k d g) := by
  unfold useN
  rw [rotV_row hj, rotL_getD hg]
section
variable {n k c d : Nat} {b : Nat → Rat} {u : Nat → Nat → Rat} {p : Nat → Rat} {s : Nat → Nat → Rat}
theorem Equi.rename (h : Equi n k b u p s) (hn : 1 ≤ n ∧ n ≤ 3) (hk : 1 ≤ k ∧ k ≤ 3) (hc : c < n) (hd : d < k) :
    Equi n k (fun j => b (back n c j)) (fun j g => u (back n c j) (back k d g)) (fun g => p (back k d g)) (fun j g => s (back n c j) (back k d g)) where
  pos := fun g _ => h.pos _ (back_lt (by omega))
  nn := fun i g _ _ => h.nn _ _ (back_lt (by omega)) (back_lt (by omega))
  row := fun i _ => by
    rw [sumQ_back hk hd (fun g => s (back n c i) g)]
    exact h.row _ (back_lt (by omega))
  col := fun g _ => by
    rw [sumQ_back hn hc (fun i => s i (back k d g))]
    exact h.col _ (back_lt (by omega))
  want := fun i g _ _ hs x _ => h.want _ _ (back_lt (by omega)) (back_lt (by omega)) hs _ (back_lt (by omega))
end
section
variable {B : List Int} {V : List (List Int)} {r r' : List Rat × List (List Rat)} {c d : Nat}
theorem rot_goods (hn : 0 < B.length) : goodsN (rotV B.length c (goodsN V) d V) = goodsN V := by
  show (rowV _ 0).length = _
  rw [rotV_row hn, rotL_length]
theorem rot_valid (hv : validM B V = true) (hc : c < B.length) (hd : d < goodsN V) : validM (rotL B.length c B 0) (rotV B.length c (goodsN V) d V) = true := by
  obtain ⟨⟨a1, a2, a3, a4⟩, b1, b2, b3⟩ := validM_iff.1 hv
  have hg := rot_goods (c := c) (d := d) (V := V) (B := B) (by omega)
  have hrow : ∀ i, i < B.length → rowV V i ∈ V := fun i hi => List.mem_of_getElem? (rowV_some (by omega))
  refine validM_iff.2 ⟨⟨by rw [rotL_length]; exact a1, by rw [rotL_length]; exact a2, fun x hx => ?_, by rw [rotL_length]; simp [rotV]⟩, by rw [hg]; exact b1, fun x hx => ?_, fun g hgk => ?_⟩
  · obtain ⟨j, hj, rfl⟩ := List.mem_map.1 hx
    refine a3 _ ?_
    rw [List.getD_eq_getElem?_getD, List.getElem?_eq_getElem (back_lt (by omega))]
    exact List.getElem_mem _
  · obtain ⟨j, hj, rfl⟩ := List.mem_map.1 hx
    obtain ⟨c1, c2, y, hy, hy0⟩ := rowOk_iff.1 (b2 _ (hrow (back B.length c j) (back_lt (by omega))))
    rw [hg]
    refine rowOk_iff.2 ⟨rotL_length .., fun z hz => ?_, ?_⟩
    · obtain ⟨g, hg2, rfl⟩ := List.mem_map.1 hz
      refine c2 _ ?_
      rw [List.getD_eq_getElem?_getD, List.getElem?_eq_getElem (by rw [c1]; exact back_lt (by omega))]
      exact List.getElem_mem _
    · obtain ⟨g, hgy⟩ := List.getElem?_of_mem hy
      have hgl := (List.getElem?_eq_some_iff.1 hgy).1
      rw [c1] at hgl
      refine ⟨y, List.mem_of_getElem? (i := (g + d) % goodsN V) ?_, hy0⟩
      rw [rotL_get (Nat.mod_lt _ (by omega)), back_to hd hgl, List.getD_eq_getElem?_getD, hgy]; rfl
  · rw [hg] at hgk
    have h1 := b3 (back (goodsN V) d g) (back_lt (by omega))
    unfold wanted at h1 ⊢
    rw [List.any_eq_true] at h1 ⊢
    obtain ⟨x, hx, h2⟩ := h1
    obtain ⟨i, hi⟩ := List.getElem?_of_mem hx
    have hil := (List.getElem?_eq_some_iff.1 hi).1
    refine ⟨rowV (rotV B.length c (goodsN V) d V) ((i + c) % B.length), List.mem_of_getElem? (rowV_some (i := (i + c) % B.length) (by simp only [rotV, List.length_map, List.length_range]; exact Nat.mod_lt _ (by omega))), ?_⟩
    rw [rotV_row (Nat.mod_lt _ (by omega)), back_to hc (by omega), rotL_getD hgk, rowV_get hi]
    exact h2
theorem rot_prices (h : prF B V = some r) (hc : c < B.length) (hd : d < goodsN V) (h' : prF (rotL B.length c B 0) (rotV B.length c (goodsN V) d V) = some r') : r'.1.length = r.1.length ∧ ∀ g, g < goodsN V → priQ r'.1 ((g + d) % goodsN V) = priQ r.1 g := by
  obtain ⟨hv, hs⟩ := prF_ok h
  obtain ⟨hv', hs'⟩ := prF_ok h'
  obtain ⟨hm, _, _⟩ := mkOk_of hv'
  obtain ⟨⟨a1, a2, a3, a4⟩, b1, b2, b3⟩ := validM_iff.1 hv
  have hg := rot_goods (c := c) (d := d) (V := V) (B := B) (by omega)
  have hE' := hs'.equi hv'
  have hl' := hs'.lp
  rw [hg] at hE' hl' hm
  rw [rotL_length] at hE' hm
  have hE := ((((hs.equi hv).rename ⟨a1, a2⟩ b1 hc hd).congr (b' := budQ (rotL B.length c B 0)) (fun j hj => by
    unfold budQ
    rw [rotL_getD hj])).congrU (u' := useQ (rotV B.length c (goodsN V) d V)) (fun i g hi hg2 => by
      unfold useQ
      rw [rotV_use hi hg2]))
  refine ⟨by rw [hl', hs.lp], fun g hgk => ?_⟩
  have h1 := hE'.unique hE hm.un hm.us ((g + d) % goodsN V) (Nat.mod_lt _ (by omega))
  rw [h1]
  show priQ r.1 (back _ _ _) = _
  rw [back_to hd hgk]
end
/-- The first i numbers laid where they belong. -/
def rotTo {α : Type} (n c : Nat) (xs : List α) (d : α) : Nat → List α
  | 0 => List.replicate n d
  | i + 1 => (rotTo n c xs d i).set ((i + c) % n) (xs.getD i d)
theorem rotTo_length {α : Type} (n c : Nat) (xs : List α) (d : α) : ∀ i, (rotTo n c xs d i).length = n
  | 0 => by simp [rotTo]
  | i + 1 => by simp only [rotTo, List.length_set]; exact rotTo_length n c xs d i
theorem rotTo_get {α : Type} {n c : Nat} {xs : List α} {d : α} (hc : c < n) {j : Nat} (hj : j < n) : ∀ i, i ≤ n → (rotTo n c xs d i)[j]? = some (if back n c j < i then xs.getD (back n c j) d else d)
  | 0, _ => by simp [rotTo, hj]
  | i + 1, hi => by
    simp only [rotTo]
    rw [List.getElem?_set]
    by_cases e : (i + c) % n = j
    · subst e
      rw [if_pos rfl, if_pos (by rw [rotTo_length]; exact hj), back_to hc (by omega), if_pos (by omega)]
    · rw [if_neg e, rotTo_get hc hj i (by omega)]
      have hne : back n c j ≠ i := fun h => e (by rw [← h, to_back hc hj])
      by_cases h1 : back n c j < i
      · rw [if_pos h1, if_pos (by omega)]
      · rw [if_neg h1, if_neg (by omega)]
theorem rotTo_all {α : Type} {n c : Nat} {xs : List α} {d : α} (hc : c < n) : rotTo n c xs d n = rotL n c xs d := by
  apply List.ext_getElem?
  intro j
  by_cases hj : j < n
  · rw [rotTo_get hc hj n (Nat.le_refl _), rotL_get hj, if_pos (back_lt (by omega))]
  · rw [List.getElem?_eq_none (by rw [rotTo_length]; omega), List.getElem?_eq_none (by rw [rotL_length]; omega)]

/- A number of a buyer turned in what Of has made. -/

theorem idxM_of (x : Int) {k : Int} (hk : 1 ≤ k) (hk2 : k ≤ 1000) : ∃ p : Nat, (p : Int) < k ∧ wrap64 ((IntKind.u64.wrap x).tmod k) = (p : Int) := by
  have h0 : 0 ≤ IntKind.u64.wrap x := by
    show 0 ≤ x % 2 ^ 64
    exact Int.emod_nonneg _ (by decide)
  have h1 := Int.tmod_nonneg k h0
  have h2 := Int.tmod_lt_of_pos (IntKind.u64.wrap x) (show (0 : Int) < k by omega)
  generalize (IntKind.u64.wrap x).tmod k = r at *
  refine ⟨r.toNat, by omega, ?_⟩
  unfold wrap64
  go_num
theorem byM_of (x : Int) {k : Int} (hk : 1 ≤ k) (hk2 : k ≤ 1000) : ∃ c : Int, (1 ≤ c ∧ c ≤ k) ∧ wrap64 (1 + wrap64 ((IntKind.u64.wrap x).tmod k)) = c := by
  obtain ⟨p, hp, e⟩ := idxM_of x hk hk2
  rw [e]
  clear e
  have hr : 1 ≤ 1 + (p : Int) ∧ 1 + (p : Int) ≤ k := by omega
  generalize 1 + (p : Int) = r at *
  refine ⟨r, hr, ?_⟩
  unfold wrap64
  go_num
/-- The block of a row of numbers. -/
def RwB (w : World) (g m cp : Nat) (xs : List Int) : Prop := ∃ cur, Blk w g 3 cur ∧ cur.size = cp ∧ cur.toList.take m = xs.map (Value.int .i64)
theorem RwB.lt {w : World} {g m cp : Nat} {xs : List Int} (h : RwB w g m cp xs) : g < w.heap.size := by obtain ⟨cur, h, _⟩ := h; exact h.lt
theorem RwB.below {w w' : World} {g m cp : Nat} {xs : List Int} (h : RwB w g m cp xs) (hb : Below w.heap.size w w') : RwB w' g m cp xs := by
  obtain ⟨cur, hB, h1, h2⟩ := h
  exact ⟨cur, hB.below hb hB.lt, h1, h2⟩
theorem RwB.ints {w : World} {g m cp : Nat} {xs : List Int} (h : RwB w g m cp xs) : Ints w (some ⟨g, 0, none⟩) xs := by
  obtain ⟨cur, hB, _, ht⟩ := h
  intro i v hv
  rw [← ht] at hv
  have hv' : cur.toList[i]? = some v := by
    rw [List.getElem?_take] at hv
    split at hv
    · exact hv
    · cases hv
  exact hB.at_ i v hv'
theorem RwB.read {w : World} {g m cp : Nat} {xs : List Int} (h : RwB w g m cp xs) {k : Nat} {x : Int} (hx : xs[k]? = some x) : w.cell? ⟨g, k, none⟩ = some (.int .i64 x) := by
  obtain ⟨cur, hB, _, ht⟩ := h
  have hv : (cur.toList.take m)[k]? = some (.int .i64 x) := by rw [ht]; simp [hx]
  rw [List.getElem?_take] at hv
  split at hv
  · rw [hB.cell, ← Array.getElem?_toList]; exact hv
  · cases hv
theorem RwB.frozen {w : World} {g m cp : Nat} {xs : List Int} (h : RwB w g m cp xs) (k : Nat) : w.frozen? ⟨g, k, none⟩ = false := by obtain ⟨cur, hB, _⟩ := h; exact hB.frozen k
theorem RwB.set_ {w : World} {g m cp : Nat} {xs : List Int} (h : RwB w g m cp xs) (k : Nat) (y : Int) : RwB (w.setCell ⟨g, k, none⟩ (.int .i64 y)) g m cp (xs.set k y) := by
  obtain ⟨cur, hB, hs, ht⟩ := h
  refine ⟨_, hB.set_ k _, by simp [hs], ?_⟩
  rw [Array.toList_setIfInBounds, List.take_set, ht, List.map_set]
theorem rwB_own {w : World} {base n c : Nat} {A : Option Addr} {xs : List Int} (h : w.ownsRow base 3 1 (.slice A n c) n (xs.map (Value.int .i64))) (hn : 0 < n) (hl : xs.length = n) : ∃ g, A = some ⟨g, 0, none⟩ ∧ base ≤ g ∧ RwB w g n c xs := by
  rcases h.2 with ⟨h0, h1⟩ | ⟨g, cap', cur, hv, hb, hg, _, _, hsz, ht⟩
  · injection h0 with _ e2 _
    omega
  · injection hv with e1 _ e3
    subst e1; subst e3
    exact ⟨g, rfl, hb, cur, hg, by simpa using hsz, by simpa [hl] using ht⟩
theorem OfMem.rowB {w w2 : World} {A U : Option Addr} {n c q d b5 : Nat} {vs : List Value} {B : List Int} {V : List (List Int)} (h : OfMem w w2 A n c U q d b5 vs B V) (hB : B.take 6 = B) (hn : 0 < n) :
    ∃ g, A = some ⟨g, 0, none⟩ ∧ w.heap.size ≤ g ∧ g < b5 ∧ RwB w2 g n c B := by
  have h1 := h.bud
  have h2 := h.ln
  rw [hB] at h1 h2
  obtain ⟨g, rfl, hg, hR⟩ := rwB_own h1 hn h2.symm
  exact ⟨g, rfl, hg, h.blt _ rfl, hR⟩
/-- What Of has made, its budgets turned. -/
theorem OfMem.turned {w w2 w3 : World} {U : Option Addr} {g n c q d b5 : Nat} {vs : List Value} {B B' : List Int} {V : List (List Int)} (h : OfMem w w2 (some ⟨g, 0, none⟩) n c U q d b5 vs B V) (hb : Kept w2.heap.size [g] w2 w3) (hg : g < b5) (hR : RwB w3 g n c B') (hl : B'.length = n) :
    MktAt w3 (some ⟨g, 0, none⟩) n U q B' (ofV V) where
  hB := hl
  hV := h.lq.symm
  budgets := hR.ints
  uses := by
    have hne : ∀ {v : Value} {e size m : Nat} {xs : List Value}, w2.ownsRow b5 e size v m xs → w3.ownsRow b5 e size v m xs := by
      intro v e size m xs ho
      obtain ⟨h1, h2⟩ := ho
      refine ⟨h1, ?_⟩
      rcases h2 with h2 | ⟨g', cap, cur, hv, a1, a2, a3⟩
      · exact .inl h2
      · exact .inr ⟨g', cap, cur, hv, a1, (hb.block g' (lt_of_block a2) (by simp; omega)).trans a2, a3⟩
    exact ORows.mat ⟨h.rows.1, fun j os hj => by obtain ⟨A', c', h1, h2⟩ := h.rows.2.1 j os hj; exact ⟨A', c', h1, hne h2⟩, h.rows.2.2⟩ (hne h.use)

/- MarketMore: the walk. -/

theorem more_le {B : List Int} {V : List (List Int)} {r r' : List Rat × List (List Rat)} (h : prF B V = some r) {p : Nat} {x y : Int} (hx : B[p]? = some x) (hy : x ≤ y) (h' : prF (B.set p y) V = some r') :
    r'.1.length = r.1.length ∧ ∀ (g : Nat) (a b : Rat), r.1[g]? = some a → r'.1[g]? = some b → a ≤ b := by
  obtain ⟨hv, hs⟩ := prF_ok h
  obtain ⟨hv', hs'⟩ := prF_ok h'
  refine ⟨by rw [hs.lp, hs'.lp], fun g a b ha hb => ?_⟩
  obtain ⟨hm, _, _⟩ := mkOk_of hv
  have hE := hs.equi hv
  have hE' := hs'.equi hv'
  rw [List.length_set] at hE'
  have hg : g < goodsN V := by rw [← hs.lp]; exact (List.getElem?_eq_some_iff.1 ha).1
  have h1 := hE.mono hE' hm.un hm.us (fun i _ => by
    unfold budQ
    rw [List.getD_eq_getElem?_getD, List.getD_eq_getElem?_getD, List.getElem?_set]
    by_cases e : p = i
    · subst e
      rw [if_pos rfl, if_pos (List.getElem?_eq_some_iff.1 hx).1, hx]
      exact_mod_cast hy
    · rw [if_neg e]
      exact Rat.le_refl) g hg
  unfold priQ at h1
  rwa [List.getD_eq_getElem?_getD, List.getD_eq_getElem?_getD, ha, hb] at h1
theorem low_pr {q : Rat} (h : PrS q) : lowB q.num q.den = true := by
  obtain ⟨a1, a2, a3⟩ := h
  have hd := den_pos q
  unfold lowB
  rw [decide_eq_true (by omega), decide_eq_true (by omega), rat_lowest q]
  rfl
set_option maxRecDepth 100000 in
set_option maxHeartbeats 4000000 in
theorem law_mmore (A : Option Addr) (n c : Nat) (U : Option Addr) (m d : Nat) (B : List Int) (V : List (List Int)) (bu by_ : Int) (W : World) (hK : MktArg W A n c U m d B V) (_ : -9223372036854775808 ≤ bu ∧ bu ≤ 9223372036854775807) (_ : -9223372036854775808 ≤ by_ ∧ by_ ≤ 9223372036854775807) :
    Calls Try.prog 4 #[mktV A n c U m d, .int .i64 bu, .int .i64 by_] W fun e w' => e = .returned (.bool true) ∧ Below W.heap.size W w' := by
  have hC1 := Ch.start W A n c U m d
  obtain ⟨w1, hw1⟩ : ∃ w1, w1 = W.alloc (.cells #[.slice A n c, .slice U m d] 25) := ⟨_, rfl⟩
  rw [← hw1] at hC1
  have HK := Lib.hid hK
  have HC1 := Lib.hid hC1
  obtain ⟨m1, m2, _, _⟩ := hC1.1.at2
  clear hK hC1
  unfold mktV
  go_enter Try.func4, Try.ntmps4
  go_wp2_with fail
  rw [← hw1]
  clear hw1
  refine ((HK.out.below HC1.out.2).of).mono ?_
  rintro e w2 ⟨A2, n2, c2, U2, q2, d2, b2, vs2, rfl, hO2⟩
  have HC2 := Lib.hid (HC1.out.next hO2.below)
  have HO2 := Lib.hid hO2
  clear hO2 m1 m2
  go_wp2_with fail
  refine (of_prices HO2.out).mono ?_
  intro ev w3 hpost
  unfold PricesPost at hpost
  obtain ⟨hb3, hpost⟩ := hpost
  have HC3 := Lib.hid (HC2.out.next hb3)
  clear hb3
  obtain ⟨m1, m2, _, _⟩ := HC3.out.1.at2
  cases hp : prF B V with
  | none =>
    rw [hp] at hpost
    subst hpost
    clear hp
    go_wp2_with fail
    refine (l4awake_any _).mono ?_
    rintro e w6 ⟨rfl, hb6⟩
    have HC6 := Lib.hid (HC3.out.next hb6)
    clear hb6
    go_wp2_with fail
    go_ret
    exact ⟨rfl, HC6.out.2⟩
  | some r =>
    rw [hp] at hpost
    obtain ⟨PA, pc, rfl, hown3⟩ := hpost
    have hpr := prF_ok hp
    have hpl := hpr.2.lp
    have hg3 := (validM_iff.1 hpr.1).2.1
    have hn3 := (validM_iff.1 hpr.1).1
    have hbud := hn3.2.2
    have hnB := HK.out.mkt.hB
    have hsame := of_same (.inr hpr.1)
    obtain ⟨k, hk⟩ : ∃ k, k = goodsN V := ⟨_, rfl⟩
    rw [← hk] at hg3 hpl
    have hfr3 := Fracs.of_cells (At.of_own hown3)
    have HP := Lib.hid (And.intro hp (And.intro hpr (And.intro hpl (And.intro hk (And.intro hn3 hsame)))))
    have HF3 := Lib.hid hfr3
    have HV := Lib.hid (HK.out.below HC3.out.2).valid
    rw [hpr.1] at HV
    rw [hpl]
    have hn13 : 1 ≤ n ∧ n ≤ 3 := by omega
    clear hp hpr hpl hk hown3 hfr3 hn3 hsame hbud
    go_wp2_with fail
    refine HV.out.mono ?_
    rintro e w4 ⟨rfl, hb4⟩
    have HC4 := Lib.hid (And.intro (HC3.out.next hb4) (HF3.out.below hb4))
    clear hb4 m1 m2 HV
    obtain ⟨m1, m2, _, _⟩ := HC4.out.1.1.at2
    have hn0 : ¬ n = 0 := by omega
    go_wp2_with fail
    obtain ⟨p, hpn, hpe⟩ := idxM_of bu (k := (n : Int)) (by omega) (by omega)
    have hpn' : p < n := by omega
    rw [hpe]
    clear hpe
    refine ((HK.out.below HC4.out.1.2).of).mono ?_
    rintro e w5 ⟨A5, n5, c5, U5, q5, d5, b5, vs5, rfl, hO5⟩
    obtain rfl : n = n5 := by rw [hO5.ln, HP.out.2.2.2.2.2.1]; exact hnB.symm
    obtain ⟨g, rfl, hg1, hg2, hR⟩ := hO5.rowB HP.out.2.2.2.2.2.1 (by omega)
    obtain ⟨x, hx⟩ : ∃ x, B[p]? = some x := ⟨_, List.getElem?_eq_getElem (by rw [hnB]; exact hpn')⟩
    have hxb := HP.out.2.2.2.2.1.2.2.1 x (List.mem_of_getElem? hx)
    have HC5 := Lib.hid (And.intro (HC4.out.1.next hO5.below) (And.intro (HC4.out.2.below hO5.below') (hO5.below)))
    have HO5 := Lib.hid hO5
    have hgl := hR.lt
    obtain ⟨w6, hw6⟩ : ∃ w6, w6 = w5.alloc (.cells #[.slice (some ⟨g, 0, none⟩) n c5, .slice U5 q5 d5] 30) := ⟨_, rfl⟩
    have hX : Blk w6 w5.heap.size 30 #[.slice (some ⟨g, 0, none⟩) n c5, .slice U5 q5 d5] := by rw [hw6]; exact Blk.new _ _ _ rfl
    have hb6 : Below w5.heap.size w5 w6 := by rw [hw6]; exact (Below.refl _ _).alloc (Nat.le_refl _) _
    have hR6 := hR.below hb6
    have c1 := hR6.read hx
    have c2 := hR6.frozen p
    obtain ⟨x1, x2, _, _⟩ := hX.at2
    have hs6 : w6.heap.size = w5.heap.size + 1 := by rw [hw6]; simp
    have HX := Lib.hid (And.intro hX (And.intro hb6 (And.intro hR6 (And.intro hx hs6))))
    have l1 : (p : Int) < (n : Int) := by omega
    have hgne : g ≠ w5.heap.size := by omega
    clear hO5 hR hX hb6 hR6 hx hs6 m1 m2
    go_upto_region 6 with fail
    rw [← hw6]
    clear hw6
    go_wp2_with fail
    obtain ⟨y, hy, hye⟩ := byM_of by_ (k := 9) (by omega) (by omega)
    rw [hye]
    clear hye
    have hxy : wrap64 (x + y) = x + y := by
      have hr : -100 ≤ x + y ∧ x + y ≤ 100 := by omega
      generalize x + y = z at *
      unfold wrap64
      go_num
    rw [hxy]
    clear hxy
    obtain ⟨w7, hw7⟩ : ∃ w7, w7 = w6.setCell ⟨g, p, none⟩ (.int .i64 (x + y)) := ⟨_, rfl⟩
    rw [← hw7]
    have hR7 : RwB w7 g n c5 (B.set p (x + y)) := by rw [hw7]; exact HX.out.2.2.1.set_ p (x + y)
    have hk7 : Kept w5.heap.size [g] w5 w7 := by rw [hw7]; exact (Kept.of_below HX.out.2.1 _).setCell (.inl (by simp)) _
    have hb7 : Below w4.heap.size w4 w7 := by rw [hw7]; exact ((HO5.out.below).trans (HX.out.2.1.mono HO5.out.below.size)).setCell hg1 _
    have hM7 := HO5.out.turned hk7 hg2 hR7 (by rw [List.length_set]; exact hnB)
    rw [HP.out.2.2.2.2.2.2] at hM7
    have hsz := HO5.out.sizes
    have hpo := mprices_any (some ⟨g, 0, none⟩) n c5 U5 q5 d5 (B.set p (x + y)) V w7 hM7 (by omega) (by omega) (fun r hr => by
      have h1 := (rowOk_iff.1 ((validM_iff.1 HP.out.2.1.1).2.2.1 r hr)).1
      rw [h1, ← HP.out.2.2.2.1]; omega) (found_any _ _)
    have HC7 := Lib.hid (And.intro (HC4.out.1.next hb7) (HC4.out.2.below hb7))
    have HPO := Lib.hid hpo
    clear hR7 hk7 hb7 hM7 hpo hw7 x1 x2 c1 c2
    refine HPO.out.mono ?_
    intro ev w8 hpost
    unfold PricesPost at hpost
    obtain ⟨hb8, hpost⟩ := hpost
    have HC8 := Lib.hid (And.intro (HC7.out.1.next hb8) (HC7.out.2.below hb8))
    clear hb8
    obtain ⟨m1, m2, _, _⟩ := HC8.out.1.1.at2
    cases hp2 : prF (B.set p (x + y)) V with
    | none =>
      rw [hp2] at hpost
      subst hpost
      clear hp2
      go_wp2_with fail
      refine (l4awake_any _).mono ?_
      rintro e w9 ⟨rfl, hb9⟩
      have HC9 := Lib.hid (HC8.out.1.next hb9)
      clear hb9
      go_wp2_with fail
      go_ret
      exact ⟨rfl, HC9.out.2⟩
    | some r' =>
      rw [hp2] at hpost
      obtain ⟨QA, qc, rfl, hown8⟩ := hpost
      have hfr8 := Fracs.of_cells (At.of_own hown8)
      obtain ⟨hl2, hle⟩ := more_le HP.out.1 HX.out.2.2.2.1 (by omega) hp2
      have hps2 := (prF_ok hp2).2.ps
      rw [hl2, HP.out.2.2.1]
      have H8 := Lib.hid (And.intro hfr8 (And.intro hle (And.intro hps2 (hl2.trans HP.out.2.2.1))))
      clear hown8 hfr8 hle hps2 hl2 hp2 m1 m2 hy
      go_wp2_with fail
      go_loopw [66] (fun iv wx => ∃ j : Nat, j ≤ k ∧ iv = .int .i64 j ∧ Below w8.heap.size w8 wx) (fun iv _ => k - (intOf iv).toNat)
      case atStart => exact ⟨0, Nat.zero_le _, rfl, Below.refl _ _⟩
      case round =>
        obtain ⟨j, hj, rfl, hbl⟩ := hrel
        by_cases hjk : j < k
        · obtain ⟨q1, hq1⟩ : ∃ q, r.1[j]? = some q := ⟨_, List.getElem?_eq_getElem (by rw [HP.out.2.2.1]; exact hjk)⟩
          obtain ⟨q2, hq2⟩ : ∃ q, r'.1[j]? = some q := ⟨_, List.getElem?_eq_getElem (by rw [H8.out.2.2.2]; exact hjk)⟩
          have p1 := HP.out.2.1.2.ps q1 (List.mem_of_getElem? hq1)
          have p2 := H8.out.2.2.1 q2 (List.mem_of_getElem? hq2)
          have hle := H8.out.2.1 j q1 q2 hq1 hq2
          obtain ⟨a1, hA1, _, hc1⟩ := (HC8.out.2.below hbl).some_ (by rw [HP.out.2.2.1]; omega)
          obtain ⟨a2, hA2, _, hc2⟩ := (H8.out.1.below hbl).some_ (by rw [H8.out.2.2.2]; omega)
          subst hA1; subst hA2
          obtain ⟨v1, v2⟩ := hc1 j q1 hq1
          obtain ⟨v3, v4⟩ := hc2 j q2 hq2
          have d1 : ∀ s : Desc wr, s.val.cell? (a1.add (j * 2)) = some (.int .i64 q1.num) := fun s => s.cell v1
          have d2 : ∀ s : Desc wr, s.val.cell? ⟨(a1.add (j * 2)).block, (a1.add (j * 2)).off + 1, none⟩ = some (.int .i64 (q1.den : Int)) := fun s => s.cell v2
          have d3 : ∀ s : Desc wr, s.val.cell? (a2.add (j * 2)) = some (.int .i64 q2.num) := fun s => s.cell v3
          have d4 : ∀ s : Desc wr, s.val.cell? ⟨(a2.add (j * 2)).block, (a2.add (j * 2)).off + 1, none⟩ = some (.int .i64 (q2.den : Int)) := fun s => s.cell v4
          have HLOW : Hid (∀ (s : Desc wr) (q : Rat), PrS q → Calls Try.prog 21 #[.agg #[.int .i64 q.num, .int .i64 (q.den : Int)]] s.val fun e w'' => e = .returned (.bool true) ∧ ∃ s' : Desc wr, w'' = s'.val) := Lib.hid fun s q hq =>
            Calls.desc_of ((rlowest_any q.num q.den _ (by have := hq.1; omega) (by have := hq.2.1; omega) (by have := hq.2.2; omega)).mono fun e w' h => ⟨by rw [h.1, low_pr hq], h.2⟩)
          have HLS : Hid (∀ s : Desc wr, Calls Try.prog 22 #[.agg #[.int .i64 q2.num, .int .i64 (q2.den : Int)], .agg #[.int .i64 q1.num, .int .i64 (q1.den : Int)]] s.val fun e w'' => e = .returned (.bool false) ∧ ∃ s' : Desc wr, w'' = s'.val) := Lib.hid fun s =>
            Calls.desc_of ((rless_use q2 q1 s.val ⟨⟨by have := p2.1; omega, by have := p2.2.1; omega⟩, by have := p2.2.2; omega⟩ ⟨⟨by have := p1.1; omega, by have := p1.2.1; omega⟩, by have := p1.2.2; omega⟩).mono fun e w' h => ⟨by rw [h.1, decide_eq_false (by grind)], h.2⟩)
          have HPP := Lib.hid (And.intro p1 p2)
          have HBj := Lib.hid hbl
          have l3 : (j : Int) < (k : Int) := by omega
          have l4 : (0 : Int) ≤ (j : Int) := by omega
          clear v1 v2 v3 v4 hc1 hc2 hle p1 p2 hq1 hq2 hbl
          go_upto_region 13 with fail
          refine wp_region_desc (by kernel_rfl) (by kernel_rfl) ?_
          repeat (go_big_quiet_step (first | (go_at_call 21; exact HLOW.out _ _ (by first | exact HPP.out.1 | exact HPP.out.2)) | (go_at_call 22; exact HLS.out _)))
          refine wpQuiet_nil ?_
          rintro _ ⟨sd, rfl⟩
          have HBE := Lib.hid (HBj.out.trans (sd.below.mono HBj.out.size))
          clear d1 d2 d3 d4
          go_wp2_with fail
          go_roundw
          case rel => exact ⟨j + 1, by omega, by go_num, HBE.out⟩
          case measure => simp [intOf]; omega
        · obtain rfl : j = k := by omega
          have HC9 := Lib.hid (HC8.out.1.next hbl)
          clear hbl
          go_wp2_with fail
          refine (l4awake_any _).mono ?_
          rintro e w9 ⟨rfl, hb9⟩
          have HC10 := Lib.hid (HC9.out.next hb9)
          clear hb9
          go_wp2_with fail
          go_ret
          exact ⟨rfl, HC10.out.2⟩

/- Two markets made in one step of MarketUnits, and rows turned in them. -/

theorem Below.cell' {w w' : World} {p : Addr} {v : Value} (h : Below w.heap.size w w') (hc : w.cell? p = some v) : w'.cell? p = some v := (h.cell (lt_of_cell hc)).trans hc
theorem OfMem.grow {w w2 w3 : World} {A U : Option Addr} {n c q d b5 : Nat} {vs : List Value} {B : List Int} {V : List (List Int)} (h : OfMem w w2 A n c U q d b5 vs B V) (hb : Below w2.heap.size w2 w3) : OfMem w w3 A n c U q d b5 vs B V where
  ln := h.ln
  lq := h.lq
  bud := own_below h.bud hb
  blt := h.blt
  b5le := h.b5le
  use := own_below h.use hb
  rows := h.rows.below hb
  below := h.below.trans (hb.mono h.below.size)
def mk0 : Array Value := #[.slice none 0 0, .slice none 0 0]
/-- Two markets that have been made, each in a variable of its own. -/
def Two (w4 : World) (B : List Int) (V : List (List Int)) (x y : Value) (wx : World) : Prop :=
  ∃ gx gy wa w5 wc w6 A5 n5 c5 U5 q5 d5 b5 vs5 A6 n6 c6 U6 q6 d6 b6 vs6, x = .pointer (some ⟨gx, 0, none⟩) ∧ y = .pointer (some ⟨gy, 0, none⟩) ∧ gx ≠ gy ∧
    Blk wx gx 30 #[.slice A5 n5 c5, .slice U5 q5 d5] ∧ Blk wx gy 30 #[.slice A6 n6 c6, .slice U6 q6 d6] ∧ OfMem wa w5 A5 n5 c5 U5 q5 d5 b5 vs5 B V ∧ OfMem wc w6 A6 n6 c6 U6 q6 d6 b6 vs6 B V ∧
    w4.heap.size ≤ wa.heap.size ∧ w5.heap.size ≤ wc.heap.size ∧ Kept w5.heap.size [gx, gy] w5 wx ∧ Kept w6.heap.size [gx, gy] w6 wx ∧ Below w4.heap.size w4 wx ∧ w4.heap.size ≤ gx ∧ w4.heap.size ≤ gy ∧
    (gx < wa.heap.size ∨ w5.heap.size ≤ gx) ∧ (gy < wa.heap.size ∨ w5.heap.size ≤ gy) ∧ (gx < wc.heap.size ∨ w6.heap.size ≤ gx) ∧ (gy < wc.heap.size ∨ w6.heap.size ≤ gy)
section
variable {w4 wa w5 wc w6 wx : World} {gx gy : Nat} {A5 U5 : Option Addr} {n5 c5 q5 d5 b5 : Nat} {vs5 : List Value} {A6 U6 : Option Addr} {n6 c6 q6 d6 b6 : Nat} {vs6 : List Value} {B : List Int} {V : List (List Int)}
theorem two_mk (hO5 : OfMem wa w5 A5 n5 c5 U5 q5 d5 b5 vs5 B V) (hO6 : OfMem wc w6 A6 n6 c6 U6 q6 d6 b6 vs6 B V) (hX : Blk wx gx 30 #[.slice A5 n5 c5, .slice U5 q5 d5]) (hY : Blk wx gy 30 #[.slice A6 n6 c6, .slice U6 q6 d6]) (h5 : Kept w5.heap.size [gx, gy] w5 wx) (h6 : Kept w6.heap.size [gx, gy] w6 wx) (h4 : Below w4.heap.size w4 wx)
    (hs : (w4.heap.size ≤ wa.heap.size ∧ w5.heap.size ≤ wc.heap.size) ∧ gx ≠ gy ∧ (w4.heap.size ≤ gx ∧ w4.heap.size ≤ gy) ∧ (gx < wa.heap.size ∨ w5.heap.size ≤ gx) ∧ (gy < wa.heap.size ∨ w5.heap.size ≤ gy) ∧ (gx < wc.heap.size ∨ w6.heap.size ≤ gx) ∧ (gy < wc.heap.size ∨ w6.heap.size ≤ gy)) : Two w4 B V (.pointer (some ⟨gx, 0, none⟩)) (.pointer (some ⟨gy, 0, none⟩)) wx := by
  obtain ⟨⟨a1, a2⟩, a3, ⟨a4, a5⟩, a6, a7, a8, a9⟩ := hs
  exact ⟨gx, gy, wa, w5, wc, w6, A5, n5, c5, U5, q5, d5, b5, vs5, A6, n6, c6, U6, q6, d6, b6, vs6, rfl, rfl, a3, hX, hY, hO5, hO6, a1, a2, h5, h6, h4, a4, a5, a6, a7, a8, a9⟩
variable (hO5 : OfMem wa w5 A5 n5 c5 U5 q5 d5 b5 vs5 B V) (hO6 : OfMem wc w6 A6 n6 c6 U6 q6 d6 b6 vs6 B V) (h56 : Below w5.heap.size w5 w6) (h46 : Below w4.heap.size w4 w6)
include hO5 hO6 h56 h46
theorem two_a (hX : Blk w6 gx 30 mk0) (hY : Blk w6 gy 30 mk0)
    (hs : (w4.heap.size ≤ wa.heap.size ∧ w5.heap.size ≤ wc.heap.size) ∧ gx ≠ gy ∧ (w4.heap.size ≤ gx ∧ w4.heap.size ≤ gy) ∧ (gx < wa.heap.size ∨ w5.heap.size ≤ gx) ∧ (gy < wa.heap.size ∨ w5.heap.size ≤ gy) ∧ (gx < wc.heap.size ∨ w6.heap.size ≤ gx) ∧ (gy < wc.heap.size ∨ w6.heap.size ≤ gy)) :
    Two w4 B V (.pointer (some ⟨gx, 0, none⟩)) (.pointer (some ⟨gy, 0, none⟩)) ((((w6.setCell ⟨gx, 0, none⟩ (.slice A5 n5 c5)).setCell ⟨gx, 1, none⟩ (.slice U5 q5 d5)).setCell ⟨gy, 0, none⟩ (.slice A6 n6 c6)).setCell ⟨gy, 1, none⟩ (.slice U6 q6 d6)) := by
  have hB1 := (((hX.set_ 0 (.slice A5 n5 c5)).set_ 1 (.slice U5 q5 d5)).far (p := ⟨gy, 0, none⟩) hs.2.1 (.slice A6 n6 c6)).far (p := ⟨gy, 1, none⟩) hs.2.1 (.slice U6 q6 d6)
  have hB2 := (((hY.far (p := ⟨gx, 0, none⟩) hs.2.1.symm (.slice A5 n5 c5)).far (p := ⟨gx, 1, none⟩) hs.2.1.symm (.slice U5 q5 d5)).set_ 0 (.slice A6 n6 c6)).set_ 1 (.slice U6 q6 d6)
  have hk : ∀ (B : Nat) (w : World), Below B w w6 → Kept B [gx, gy] w ((((w6.setCell ⟨gx, 0, none⟩ (.slice A5 n5 c5)).setCell ⟨gx, 1, none⟩ (.slice U5 q5 d5)).setCell ⟨gy, 0, none⟩ (.slice A6 n6 c6)).setCell ⟨gy, 1, none⟩ (.slice U6 q6 d6)) := fun B w h =>
    ((((Kept.of_below h _).setCell (p := ⟨gx, 0, none⟩) (.inl (by simp)) _).setCell (p := ⟨gx, 1, none⟩) (.inl (by simp)) _).setCell (p := ⟨gy, 0, none⟩) (.inl (by simp)) _).setCell (p := ⟨gy, 1, none⟩) (.inl (by simp)) _
  have hgx := hs.2.2.1.1
  have hgy := hs.2.2.1.2
  exact two_mk hO5 hO6 hB1 hB2 (hk _ _ h56) (hk _ _ (Below.refl _ _)) ((((h46.setCell (p := ⟨gx, 0, none⟩) hgx _).setCell (p := ⟨gx, 1, none⟩) hgx _).setCell (p := ⟨gy, 0, none⟩) hgy _).setCell (p := ⟨gy, 1, none⟩) hgy _) hs
theorem two_b1 (hX : Blk w6 gx 30 mk0)
    (hs : (w4.heap.size ≤ wa.heap.size ∧ w5.heap.size ≤ wc.heap.size) ∧ w4.heap.size ≤ gx ∧ (gx < wa.heap.size ∨ w5.heap.size ≤ gx) ∧ (gx < wc.heap.size ∨ w6.heap.size ≤ gx)) :
    Two w4 B V (.pointer (some ⟨gx, 0, none⟩)) (.pointer (some ⟨w6.heap.size, 0, none⟩)) (((w6.setCell ⟨gx, 0, none⟩ (.slice A5 n5 c5)).setCell ⟨gx, 1, none⟩ (.slice U5 q5 d5)).alloc (.cells #[.slice A6 n6 c6, .slice U6 q6 d6] 30)) := by
  have hgl := hX.lt
  have hB1 := ((hX.set_ 0 (.slice A5 n5 c5)).set_ 1 (.slice U5 q5 d5)).alloc (.cells #[.slice A6 n6 c6, .slice U6 q6 d6] 30)
  have hB2 : Blk (((w6.setCell ⟨gx, 0, none⟩ (.slice A5 n5 c5)).setCell ⟨gx, 1, none⟩ (.slice U5 q5 d5)).alloc (.cells #[.slice A6 n6 c6, .slice U6 q6 d6] 30)) w6.heap.size 30 #[.slice A6 n6 c6, .slice U6 q6 d6] := Blk.new _ _ _ (by simp)
  have hk : ∀ (B : Nat) (w : World), B ≤ w6.heap.size → Below B w w6 → Kept B [gx, w6.heap.size] w (((w6.setCell ⟨gx, 0, none⟩ (.slice A5 n5 c5)).setCell ⟨gx, 1, none⟩ (.slice U5 q5 d5)).alloc (.cells #[.slice A6 n6 c6, .slice U6 q6 d6] 30)) := fun B w hB h =>
    ((((Kept.of_below h _).setCell (p := ⟨gx, 0, none⟩) (.inl (by simp)) _).setCell (p := ⟨gx, 1, none⟩) (.inl (by simp)) _)).alloc (by simpa using hB) _
  have hgx := hs.2.1
  have hz := h56.size
  have hz4 := h46.size
  exact two_mk hO5 hO6 hB1 hB2 (hk _ _ hz h56) (hk _ _ (Nat.le_refl _) (Below.refl _ _)) ((((h46.setCell (p := ⟨gx, 0, none⟩) hgx _).setCell (p := ⟨gx, 1, none⟩) hgx _)).alloc (by simpa using hz4) _) ⟨hs.1, by omega, ⟨hgx, hz4⟩, hs.2.2.1, .inr hz, hs.2.2.2, .inr (Nat.le_refl _)⟩
theorem two_b2 (hY : Blk w6 gy 30 mk0)
    (hs : (w4.heap.size ≤ wa.heap.size ∧ w5.heap.size ≤ wc.heap.size) ∧ w4.heap.size ≤ gy ∧ (gy < wa.heap.size ∨ w5.heap.size ≤ gy) ∧ (gy < wc.heap.size ∨ w6.heap.size ≤ gy)) :
    Two w4 B V (.pointer (some ⟨w6.heap.size, 0, none⟩)) (.pointer (some ⟨gy, 0, none⟩)) (((w6.setCell ⟨gy, 0, none⟩ (.slice A6 n6 c6)).setCell ⟨gy, 1, none⟩ (.slice U6 q6 d6)).alloc (.cells #[.slice A5 n5 c5, .slice U5 q5 d5] 30)) := by
  have hgl := hY.lt
  have hB1 := ((hY.set_ 0 (.slice A6 n6 c6)).set_ 1 (.slice U6 q6 d6)).alloc (.cells #[.slice A5 n5 c5, .slice U5 q5 d5] 30)
  have hB2 : Blk (((w6.setCell ⟨gy, 0, none⟩ (.slice A6 n6 c6)).setCell ⟨gy, 1, none⟩ (.slice U6 q6 d6)).alloc (.cells #[.slice A5 n5 c5, .slice U5 q5 d5] 30)) w6.heap.size 30 #[.slice A5 n5 c5, .slice U5 q5 d5] := Blk.new _ _ _ (by simp)
  have hk : ∀ (B : Nat) (w : World), B ≤ w6.heap.size → Below B w w6 → Kept B [w6.heap.size, gy] w (((w6.setCell ⟨gy, 0, none⟩ (.slice A6 n6 c6)).setCell ⟨gy, 1, none⟩ (.slice U6 q6 d6)).alloc (.cells #[.slice A5 n5 c5, .slice U5 q5 d5] 30)) := fun B w hB h =>
    ((((Kept.of_below h _).setCell (p := ⟨gy, 0, none⟩) (.inl (by simp)) _).setCell (p := ⟨gy, 1, none⟩) (.inl (by simp)) _)).alloc (by simpa using hB) _
  have hgx := hs.2.1
  have hz := h56.size
  have hz4 := h46.size
  exact two_mk hO5 hO6 hB2 hB1 (hk _ _ hz h56) (hk _ _ (Nat.le_refl _) (Below.refl _ _)) ((((h46.setCell (p := ⟨gy, 0, none⟩) hgx _).setCell (p := ⟨gy, 1, none⟩) hgx _)).alloc (by simpa using hz4) _) ⟨hs.1, by omega, ⟨hz4, hgx⟩, .inr hz, hs.2.2.1, .inr (Nat.le_refl _), hs.2.2.2⟩
theorem two_c1 (hs : (w4.heap.size ≤ wa.heap.size ∧ w5.heap.size ≤ wc.heap.size)) :
    Two w4 B V (.pointer (some ⟨w6.heap.size, 0, none⟩)) (.pointer (some ⟨w6.heap.size + 1, 0, none⟩)) ((w6.alloc (.cells #[.slice A5 n5 c5, .slice U5 q5 d5] 30)).alloc (.cells #[.slice A6 n6 c6, .slice U6 q6 d6] 30)) := by
  have hz := h56.size
  have hz4 := h46.size
  have hB1 : Blk ((w6.alloc (.cells #[.slice A5 n5 c5, .slice U5 q5 d5] 30)).alloc (.cells #[.slice A6 n6 c6, .slice U6 q6 d6] 30)) w6.heap.size 30 #[.slice A5 n5 c5, .slice U5 q5 d5] := (Blk.new _ _ _ rfl).alloc _
  have hB2 : Blk ((w6.alloc (.cells #[.slice A5 n5 c5, .slice U5 q5 d5] 30)).alloc (.cells #[.slice A6 n6 c6, .slice U6 q6 d6] 30)) (w6.heap.size + 1) 30 #[.slice A6 n6 c6, .slice U6 q6 d6] := Blk.new _ _ _ (by simp)
  have hk : ∀ (B : Nat) (w : World), B ≤ w6.heap.size → Below B w w6 → Below B w ((w6.alloc (.cells #[.slice A5 n5 c5, .slice U5 q5 d5] 30)).alloc (.cells #[.slice A6 n6 c6, .slice U6 q6 d6] 30)) := fun B w hB h => (h.alloc hB _).alloc (by simp; omega) _
  exact two_mk hO5 hO6 hB1 hB2 (Kept.of_below (hk _ _ hz h56) _) (Kept.of_below (hk _ _ (Nat.le_refl _) (Below.refl _ _)) _) (hk _ _ hz4 h46) ⟨hs, by omega, by omega, by omega, by omega, by omega, by omega⟩
theorem two_c2 (hs : (w4.heap.size ≤ wa.heap.size ∧ w5.heap.size ≤ wc.heap.size)) :
    Two w4 B V (.pointer (some ⟨w6.heap.size + 1, 0, none⟩)) (.pointer (some ⟨w6.heap.size, 0, none⟩)) ((w6.alloc (.cells #[.slice A6 n6 c6, .slice U6 q6 d6] 30)).alloc (.cells #[.slice A5 n5 c5, .slice U5 q5 d5] 30)) := by
  have hz := h56.size
  have hz4 := h46.size
  have hB1 : Blk ((w6.alloc (.cells #[.slice A6 n6 c6, .slice U6 q6 d6] 30)).alloc (.cells #[.slice A5 n5 c5, .slice U5 q5 d5] 30)) w6.heap.size 30 #[.slice A6 n6 c6, .slice U6 q6 d6] := (Blk.new _ _ _ rfl).alloc _
  have hB2 : Blk ((w6.alloc (.cells #[.slice A6 n6 c6, .slice U6 q6 d6] 30)).alloc (.cells #[.slice A5 n5 c5, .slice U5 q5 d5] 30)) (w6.heap.size + 1) 30 #[.slice A5 n5 c5, .slice U5 q5 d5] := Blk.new _ _ _ (by simp)
  have hk : ∀ (B : Nat) (w : World), B ≤ w6.heap.size → Below B w w6 → Below B w ((w6.alloc (.cells #[.slice A6 n6 c6, .slice U6 q6 d6] 30)).alloc (.cells #[.slice A5 n5 c5, .slice U5 q5 d5] 30)) := fun B w hB h => (h.alloc hB _).alloc (by simp; omega) _
  exact two_mk hO5 hO6 hB2 hB1 (Kept.of_below (hk _ _ hz h56) _) (Kept.of_below (hk _ _ (Nat.le_refl _) (Below.refl _ _)) _) (hk _ _ hz4 h46) ⟨hs, by omega, by omega, by omega, by omega, by omega, by omega⟩
end
theorem below_al {w w' : World} (h : Below w.heap.size w w') (o : Obj) : Below w.heap.size w (w'.alloc o) := h.alloc h.size o
theorem below_dr {w w' : World} (h : Below w.heap.size w w') : Below w.heap.size w w'.drew := below_drewN h 1
theorem below_set {w w' : World} (h : Below w.heap.size w w') {p : Addr} (hp : w.heap.size ≤ p.block) (u : Value) : Below w.heap.size w (w'.setCell p u) := h.setCell hp u
theorem keep_two {w w' : World} {p q : Addr} {a b : Value} (m1 : w.cell? p = some a) (m2 : w.cell? q = some b) (h : Below w.heap.size w w') : w'.cell? p = some a ∧ w'.cell? q = some b := ⟨Below.cell' h m1, Below.cell' h m2⟩
theorem mk0_new (w : World) : Blk (w.alloc (.cells mk0 30)) w.heap.size 30 mk0 := Blk.new _ _ _ rfl
/-- What a call owns, kept but for a few blocks that are not its own. -/
theorem own_keptS {w w' : World} {base e size n : Nat} {v : Value} {xs : List Value} {S : List Nat} (h : w.ownsRow base e size v n xs) (hk : Kept w.heap.size S w w') (hS : ∀ x ∈ S, x < base ∨ w.heap.size ≤ x) : w'.ownsRow base e size v n xs := by
  obtain ⟨h1, h2⟩ := h
  refine ⟨h1, ?_⟩
  rcases h2 with h2 | ⟨g, cap, cur, hv, a1, a2, a3⟩
  · exact .inl h2
  · exact .inr ⟨g, cap, cur, hv, a1, (hk.block g (lt_of_block a2) (fun hm => by have := hS g hm; have := lt_of_block a2; omega)).trans a2, a3⟩
theorem ORows.keptS {w w' : World} {base : Nat} {vs : List Value} {L : List (List Int)} {S : List Nat} (h : ORows w base vs L) (hk : Kept w.heap.size S w w') (hS : ∀ x ∈ S, x < base ∨ w.heap.size ≤ x) : ORows w' base vs L :=
  ⟨h.1, fun j os hj => by obtain ⟨A, c, h1, h2⟩ := h.2.1 j os hj; exact ⟨A, c, h1, own_keptS h2 hk hS⟩, h.2.2⟩
theorem RwB.kept {w w' : World} {g m cp B : Nat} {S : List Nat} {xs : List Int} (h : RwB w g m cp xs) (hk : Kept B S w w') (hg : g < B) (hn : g ∉ S) : RwB w' g m cp xs := by
  obtain ⟨cur, hB, h1, h2⟩ := h
  exact ⟨cur, hB.kept hk hg hn, h1, h2⟩
/-- One row written anew. -/
theorem mat_rowM {w w' : World} {base : Nat} {vs : List Value} {L : List (List Int)} {S : List Nat} {A : Option Addr} {q c p cp gp : Nat} {os os' : List Int} (ho : w.ownsRow base 22 1 (.slice A q c) q vs) (hr : ORows w base vs L) (hp : L[p]? = some os) (hvp : vs[p]? = some (.slice (some ⟨gp, 0, none⟩) os.length cp)) (hk : Kept w.heap.size S w w')
    (hS : ∀ x ∈ S, x = gp ∨ x < base ∨ w.heap.size ≤ x) (hI : Ints w' (some ⟨gp, 0, none⟩) os') (hl : os'.length = os.length) : Mat w' A (L.set p os') := by
  intro j r hj
  have hjl : j < L.length := by have := (List.getElem?_eq_some_iff.1 hj).1; simpa using this
  obtain ⟨A0, c0, hv0, hw0⟩ := hr.2.1 p os hp
  rw [hvp] at hv0
  injection hv0 with hv0
  injection hv0 with e1 _ e3
  subst e1; subst e3
  obtain ⟨A', c', hv, hown⟩ := hr.2.1 j _ (List.getElem?_eq_getElem hjl)
  have hvl : j < vs.length := by rw [hr.1]; exact hjl
  have hq : 0 < q := by have := ho.1; omega
  obtain ⟨gA, rfl, hgA, hgl, hcA⟩ := own_someN ho hq
  have hc := hcA j _ hv
  have hne : gA ≠ gp := by
    have := own_ne hw0 ho rfl
    intro h
    apply this
    show some gp = some gA
    rw [h]
  have hc' : w'.cell? ⟨gA, j, none⟩ = some (.slice A' (L[j]).length c') := by
    rw [hk.cell (p := ⟨gA, j, none⟩) hgl (fun hm : gA ∈ S => by rcases hS gA hm with h | h | h <;> omega)]; exact hc
  have ea : (⟨gA, 0, none⟩ : Addr).add j = ⟨gA, j, none⟩ := by simp [Addr.add]; omega
  obtain ⟨_, _, he, h1, h2, _⟩ := own_form hown
  injection he with e1 _ e3
  subst e1; subst e3
  by_cases e : p = j
  · subst e
    rw [List.getElem?_set_self hjl] at hj
    injection hj with hj
    subst hj
    have eL : L[p] = os := by rw [List.getElem?_eq_getElem hjl] at hp; injection hp
    rw [eL] at hc' h1 hv
    rw [hvp] at hv
    injection hv with hv
    injection hv with e1 _ e3
    subst e1; subst e3
    exact ⟨_, _, _, rfl, by rw [hl, ea]; exact hc', by rw [hl]; exact h1, h2, hI⟩
  · rw [List.getElem?_set_ne e, List.getElem?_eq_getElem hjl] at hj
    injection hj with hj
    subst hj
    refine ⟨_, _, _, rfl, by rw [ea]; exact hc', h1, h2, ?_⟩
    intro i v hiv
    have hin : 0 < (L[j]).length := by
      have := (List.getElem?_eq_some_iff.1 hiv).1
      simp at this; omega
    obtain ⟨g2, rfl, hg2, hg2l, hc2⟩ := own_someN hown hin
    have hb : g2 ≠ gp := by
      rcases Nat.lt_or_gt_of_ne e with h | h
      · have := hr.2.2 p j ⟨gp, 0, none⟩ ⟨g2, 0, none⟩ _ _ _ _ h hvp hv
        have : gp < g2 := this
        omega
      · have := hr.2.2 j p ⟨g2, 0, none⟩ ⟨gp, 0, none⟩ _ _ _ _ h hv hvp
        have : g2 < gp := this
        omega
    refine ⟨_, rfl, ?_⟩
    have ea2 : (⟨g2, 0, none⟩ : Addr).add i = ⟨g2, i, none⟩ := by simp [Addr.add]; omega
    rw [ea2, hk.cell (p := ⟨g2, i, none⟩) hg2l (fun hm : g2 ∈ S => by rcases hS g2 hm with h | h | h <;> omega)]
    exact hc2 i v hiv
/-- The first numbers of a row multiplied. -/
def mulTo (c : Int) (xs : List Int) (g : Nat) : List Int := (xs.take g).map (c * ·) ++ xs.drop g
theorem mulTo_zero (c : Int) (xs : List Int) : mulTo c xs 0 = xs := by simp [mulTo]
theorem mulTo_all {c : Int} {xs : List Int} {k : Nat} (h : xs.length = k) : mulTo c xs k = xs.map (c * ·) := by subst h; simp [mulTo]
theorem mulTo_get {c : Int} {xs : List Int} {g : Nat} (hg : g ≤ xs.length) : (mulTo c xs g)[g]? = xs[g]? := by
  unfold mulTo
  rw [List.getElem?_append_right (by simp; omega)]
  simp [Nat.min_eq_left hg]
theorem mulTo_set {c : Int} {xs : List Int} {g : Nat} {x : Int} (hx : xs[g]? = some x) : (mulTo c xs g).set g (c * x) = mulTo c xs (g + 1) := by
  obtain ⟨hg, hx2⟩ := List.getElem?_eq_some_iff.1 hx
  unfold mulTo
  rw [List.drop_eq_getElem_cons hg, hx2, take_succ' hx, List.map_append, List.set_append_right _ _ (by simp; omega)]
  simp [Nat.min_eq_left (Nat.le_of_lt hg)]

/- make([]int, n) in this seat's program. -/
theorem info_int0 : (Try.prog.info? 3).map (fun i => (i.zero, i.size, i.bytes)) = some (some (.int .i64 0), 1, 8) := by kernel_rfl
/-- make([]int, n). -/
theorem make_ints (n : Nat) (hn : n ≤ 1000000) (w : World) : (Instr.makeSlice 22 (.int .i64 n) (.int .i64 n)).run Try.prog w = .ok (.slice (some ⟨w.heap.size, 0, none⟩) n n) (w.alloc (.cells (arr (List.replicate n 0)) 3)) := by
  obtain ⟨i0, hi, hz0, hz1, hz2⟩ := info_parts info_int0
  have hr := run_make (P := Try.prog) w 22 3 i0 (.int .i64 0) Try.underlying22 hi hz0 .i64 .i64 n n (by omega) (by omega) (by rw [hz2]; omega) (by omega)
  simp only [Int.toNat_natCast, hz1] at hr
  rw [hr, arr_zeros]


/- The memory of MarketAlike: a market that is made by other names. -/

/-- make([][]int, n). -/
theorem make_intss4 (n : Nat) (hn : n ≤ 1000000) (w : World) : (Instr.makeSlice 23 (.int .i64 n) (.int .i64 n)).run Try.prog w = .ok (.slice (some ⟨w.heap.size, 0, none⟩) n n) (w.alloc (.cells (Array.replicate n (Value.slice none 0 0)) 22)) := by
  obtain ⟨i0, hi, hz0, hz1, hz2⟩ := info_parts info_ints
  have hr := run_make (P := Try.prog) w 23 22 i0 (.slice none 0 0) Try.underlying23 hi hz0 .i64 .i64 n n (by omega) (by omega) (by rw [hz2]; omega) (by omega)
  simp only [Int.toNat_natCast, hz1] at hr
  rw [hr]
  have e : madeCells (Value.slice none 0 0).cells (n * 1) = Array.replicate n (Value.slice none 0 0) := by
    apply Array.ext'
    show (madeCells #[Value.slice none 0 0] (n * 1)).toList = _
    rw [toList_madeCells_one]; simp
  rw [e]
/-- The market while it is made: ib budgets and iu rows are laid. -/
structure AlM (w0 w : World) (gx gB gU n k c d ib iu : Nat) (B : List Int) (V : List (List Int)) : Prop where
  box : Blk w gx 30 #[.slice (some ⟨gB, 0, none⟩) n n, .slice (some ⟨gU, 0, none⟩) n n]
  bud : Blk w gB 3 (arr (rotTo n c B 0 ib))
  use : ∃ cs, Blk w gU 22 cs ∧ cs.size = n ∧ ∀ i, i < iu → ∃ g, cs[(i + c) % n]? = some (.slice (some ⟨g, 0, none⟩) k k) ∧ Blk w g 3 (arr (rotL k d (rowV V i) 0)) ∧ g ≠ gB
  low : w0.heap.size ≤ gx ∧ w0.heap.size ≤ gB ∧ w0.heap.size ≤ gU
  below : Below w0.heap.size w0 w
section
variable {w0 w w' : World} {gx gB gU n k c d ib i : Nat} {B : List Int} {V : List (List Int)}
theorem AlM.drewN (h : AlM w0 w gx gB gU n k c d ib i B V) (m : Nat) : AlM w0 (w.drewN m) gx gB gU n k c d ib i B V :=
  ⟨h.box, h.bud, h.use, h.low, below_drewN h.below m⟩
theorem AlM.ne (h : AlM w0 w gx gB gU n k c d ib i B V) : gx ≠ gB ∧ gx ≠ gU ∧ gB ≠ gU := by
  obtain ⟨cs, h1, _⟩ := h.use
  exact ⟨h.box.ne_ h.bud (by decide), h.box.ne_ h1 (by decide), h.bud.ne_ h1 (by decide)⟩
theorem AlM.budget (h : AlM w0 w gx gB gU n k c d ib i B V) : AlM w0 (w.setCell ⟨gB, (ib + c) % n, none⟩ (.int .i64 (B.getD ib 0))) gx gB gU n k c d (ib + 1) i B V := by
  obtain ⟨n1, n2, n3⟩ := h.ne
  obtain ⟨cs, h1, h2, h3⟩ := h.use
  refine ⟨h.box.far n1 _, ?_, ⟨cs, h1.far n3.symm _, h2, fun j hj => ?_⟩, h.low, h.below.setCell h.low.2.1 _⟩
  · have := h.bud.set_ ((ib + c) % n) (.int .i64 (B.getD ib 0))
    rw [arr_set] at this
    exact this
  · obtain ⟨g, a1, a2, a3⟩ := h3 j hj
    exact ⟨g, a1, a2.far a3 _, a3⟩
theorem AlM.row (h : AlM w0 w gx gB gU n k c d ib i B V) (hc : c < n) (hi : i < n) (hk : Kept (w.heap.size + 1) [w.heap.size] ((w.setCell ⟨gU, (i + c) % n, none⟩ (.slice (some ⟨w.heap.size, 0, none⟩) k k)).alloc (.cells (arr (List.replicate k 0)) 3)) w')
    (hr : Blk w' w.heap.size 3 (arr (rotL k d (rowV V i) 0))) : AlM w0 w' gx gB gU n k c d ib (i + 1) B V := by
  obtain ⟨n1, n2, n3⟩ := h.ne
  obtain ⟨cs, h1, h2, h3⟩ := h.use
  have hxl := h.box.lt
  have hbl := h.bud.lt
  have hul := h1.lt
  have hkeep : ∀ {g : Nat} {t : TypeId} {ys : Array Value}, Blk w g t ys → g ≠ gU → Blk w' g t ys := fun {g t ys} hb hne => by
    have hl := hb.lt
    have := (hb.far (p := ⟨gU, (i + c) % n, none⟩) hne (.slice (some ⟨w.heap.size, 0, none⟩) k k)).alloc (.cells (arr (List.replicate k 0)) 3)
    exact this.kept hk (by omega) (by simp; omega)
  have hU : Blk w' gU 22 (cs.setIfInBounds ((i + c) % n) (.slice (some ⟨w.heap.size, 0, none⟩) k k)) :=
    ((h1.set_ ((i + c) % n) (.slice (some ⟨w.heap.size, 0, none⟩) k k)).alloc (.cells (arr (List.replicate k 0)) 3)).kept hk (by omega) (by simp; omega)
  have hsz := h.below.size
  refine ⟨hkeep h.box n2, hkeep h.bud n3, ⟨_, hU, by simp [h2], fun j hj => ?_⟩, h.low, ?_⟩
  · rcases Nat.lt_or_ge j i with hji | hji
    · obtain ⟨g, a1, a2, a3⟩ := h3 j hji
      have hne : (i + c) % n ≠ (j + c) % n := fun he => by
        have e1 := back_to hc hi
        rw [he, back_to hc (by omega)] at e1
        omega
      exact ⟨g, by rw [Array.getElem?_setIfInBounds_ne hne]; exact a1, hkeep a2 (a2.ne_ h1 (by decide)), a3⟩
    · obtain rfl : j = i := by omega
      refine ⟨w.heap.size, ?_, hr, by omega⟩
      rw [Array.getElem?_setIfInBounds_self_of_lt (by rw [h2]; exact Nat.mod_lt _ (by omega))]
  · have hb2 : Below w0.heap.size w0 ((w.setCell ⟨gU, (i + c) % n, none⟩ (.slice (some ⟨w.heap.size, 0, none⟩) k k)).alloc (.cells (arr (List.replicate k 0)) 3)) := (h.below.setCell h.low.2.2 _).alloc (by simpa [World.setCell] using hsz) _
    exact hb2.trans (hk.mono (B' := w0.heap.size) (S' := []) (by omega) (fun x hx => by simp at hx; right; omega)).below
theorem AlM.mkt (h : AlM w0 w gx gB gU n k c d n n B V) (hc : c < n) (hk : k ≤ 1000) : MktAt w (some ⟨gB, 0, none⟩) n (some ⟨gU, 0, none⟩) n (rotL n c B 0) (rotV n c k d V) := by
  obtain ⟨cs, h1, h2, h3⟩ := h.use
  refine ⟨rotL_length .., by simp [rotV], ?_, ?_⟩
  · have := blk_ints h.bud
    rwa [rotTo_all hc] at this
  · intro j r hj
    have hjn : j < n := by have := (List.getElem?_eq_some_iff.1 hj).1; simpa [rotV] using this
    have hr := rowV_get hj
    rw [rotV_row hjn] at hr
    subst hr
    obtain ⟨g, a1, a2, _⟩ := h3 (back n c j) (back_lt (by omega))
    rw [to_back hc hjn] at a1
    refine ⟨⟨gU, 0, none⟩, some ⟨g, 0, none⟩, k, rfl, ?_, by rw [rotL_length]; exact Nat.le_refl _, ?_, blk_ints a2⟩
    · have ea : (⟨gU, 0, none⟩ : Addr).add j = ⟨gU, j, none⟩ := by simp [Addr.add]; omega
      rw [ea, h1.cell, rotL_length]
      exact a1
    · omega
end

/- The worth of what a buyer gets: laws. -/

/-- A worth, and its size. -/
def WoS (q : Rat) : Prop := 1 ≤ q.num ∧ q.num ≤ 480000 ∧ (q.den : Int) ≤ 48000
section
variable {B : List Int} {V : List (List Int)} {r : List Rat × List (List Rat)}
theorem wor_form (hv : validM B V = true) (h : SolR B V B.length (goodsN V) r) {i : Nat} (hi : i < B.length) : ∃ g0, g0 < goodsN V ∧ 0 < useN V i g0 ∧ worTo V r.1 r.2 i (goodsN V) * priQ r.1 g0 = useQ V i g0 * budQ B i ∧
    ∀ g, g < goodsN V → useQ V i g * priQ r.1 g0 ≤ useQ V i g0 * priQ r.1 g := by
  obtain ⟨hm, _, hu⟩ := mkOk_of hv
  have hE := h.equi hv
  have hex : ∃ g0, g0 < goodsN V ∧ spd r.2 i g0 ≠ 0 := by
    by_cases hx : ∃ g0, g0 < goodsN V ∧ spd r.2 i g0 ≠ 0
    · exact hx
    · exfalso
      have h1 := hE.row i hi
      rw [sumQ_zero fun g hg => by
        by_cases h2 : spd r.2 i g = 0
        · exact h2
        · exact absurd ⟨g, hg, h2⟩ hx] at h1
      have := hm.bp i hi
      grind
  obtain ⟨g0, hg0, hs0⟩ := hex
  have hp0 := hE.pos g0 hg0
  have hu0 := hE.use hm.us hi hg0 hs0
  have hw0 := hE.want i g0 hi hg0 hs0
  refine ⟨g0, hg0, ?_, ?_, hw0⟩
  · unfold useQ at hu0
    exact_mod_cast hu0
  · unfold worTo
    rw [← sq_mulr]
    have e : ∀ g, g < goodsN V → worQ V r.1 r.2 i g * priQ r.1 g0 = useQ V i g0 * spd r.2 i g := fun g hg => by
      unfold worQ
      have hp := hE.pos g hg
      by_cases h2 : spd r.2 i g = 0
      · rw [h2, Rat.mul_zero, Rat.div_def, Rat.zero_mul, Rat.zero_mul, Rat.mul_zero]
      · have h3 := hE.want i g hi hg h2 g0 hg0
        have h4 := hw0 g hg
        have h5 : useQ V i g * priQ r.1 g0 = useQ V i g0 * priQ r.1 g := Rat.le_antisymm h4 h3
        have hne : priQ r.1 g ≠ 0 := by grind
        generalize useQ V i g = a at *
        generalize useQ V i g0 = a0 at *
        generalize priQ r.1 g = pg at *
        generalize priQ r.1 g0 = pg0 at *
        generalize spd r.2 i g = s at *
        grind
    rw [sumQ_congr e, sumQ_mul]
    show useQ V i g0 * sumQ (spd r.2 i) (goodsN V) = _
    rw [hE.row i hi]
theorem fair_ge (hv : validM B V = true) (h : SolR B V B.length (goodsN V) r) {i g : Nat} (hi : i < B.length) (hg : g < goodsN V) : useQ V i g * budQ B i ≤ worTo V r.1 r.2 i (goodsN V) * priQ r.1 g := by
  obtain ⟨g0, hg0, _, e, hw⟩ := wor_form hv h hi
  obtain ⟨hm, _, _⟩ := mkOk_of hv
  have hE := h.equi hv
  have hp0 := hE.pos g0 hg0
  have h1 := hw g hg
  have hb := hm.bp i hi
  have h2 := Rat.mul_le_mul_of_nonneg_left (c := budQ B i) h1 (Rat.le_of_lt hb)
  refine Rat.le_of_mul_le_mul_right (c := priQ r.1 g0) ?_ hp0
  generalize worTo V r.1 r.2 i (goodsN V) = W at *
  generalize useQ V i g = a at *
  generalize useQ V i g0 = a0 at *
  generalize priQ r.1 g = pg at *
  generalize priQ r.1 g0 = pg0 at *
  generalize budQ B i = b at *
  have e2 : W * pg * pg0 = b * (a0 * pg) := by grind
  rw [e2]
  have e3 : a * b * pg0 = b * (a * pg0) := by grind
  rw [e3]
  exact h2
theorem fair_sum (hv : validM B V = true) (h : SolR B V B.length (goodsN V) r) {i : Nat} (hi : i < B.length) : sumQ (useQ V i) (goodsN V) * budQ B i ≤ worTo V r.1 r.2 i (goodsN V) * sumQ (budQ B) B.length := by
  have hE := h.equi hv
  have e : sumQ (budQ B) B.length = sumQ (priQ r.1) (goodsN V) := by
    rw [← sumQ_congr fun i hi => hE.row i hi, sq_swap]
    exact sumQ_congr fun g hg => hE.col g hg
  rw [e, ← sumQ_mul, ← sq_mulr]
  exact sq_mono fun g hg => fair_ge hv h hi hg
theorem fair_sm (hv : validM B V = true) (h : SolR B V B.length (goodsN V) r) {i : Nat} (hi : i < B.length) : WoS (worTo V r.1 r.2 i (goodsN V)) := by
  obtain ⟨g0, hg0, hu0, e, _⟩ := wor_form hv h hi
  have hE := h.equi hv
  have hp0 := hE.pos g0 hg0
  have hP := pri_sm h hg0
  have hub := (mkOk_of hv).2.2 i g0
  obtain ⟨⟨a1, a2, a3, a4⟩, b1, b2, b3⟩ := validM_iff.1 hv
  have hbi := a3 (B.getD i 0) (by
    rw [List.getD_eq_getElem?_getD, List.getElem?_eq_getElem hi]
    exact List.getElem_mem _)
  unfold useQ budQ at e
  generalize worTo V r.1 r.2 i (goodsN V) = W at *
  generalize useN V i g0 = u at *
  generalize B.getD i 0 = b at *
  generalize priQ r.1 g0 = p at *
  obtain ⟨p1, p2, p3⟩ := hP
  have hpd0 := den_pos p
  have eW : W = ((u * b * p.den : Int) : Rat) / ((p.num : Int) : Rat) := by
    rw [Rat.intCast_mul, Rat.intCast_mul]
    have hp' := num_den_of p
    have a2 : ((p.den : Int) : Rat) ≠ 0 := rat_ne (by omega)
    have a3 : (p.num : Rat) ≠ 0 := rat_ne (by omega)
    generalize ((p.den : Int) : Rat) = pd at *
    generalize (p.num : Rat) = pn at *
    subst hp'
    grind
  have h1 : 1 * 1 ≤ u * b ∧ u * b ≤ 20 * 20 := ⟨Int.mul_le_mul (by omega) hbi.1 (by omega) (by omega), Int.mul_le_mul hub.2 hbi.2 (by omega) (by omega)⟩
  have h2 : 1 * 1 ≤ u * b * (p.den : Int) ∧ u * b * (p.den : Int) ≤ 400 * 1200 := ⟨Int.mul_le_mul (by omega) (by omega) (by omega) (by omega), Int.mul_le_mul (by omega) p3 (by omega) (by omega)⟩
  have h4 := frac_bd (by omega) eW
  have h5 := frac_nn (by omega) (by omega) eW
  have h6 : W.num ≠ 0 := fun h0 => by
    have hz := Rat.num_eq_zero.1 h0
    rw [hz, Rat.zero_mul] at e
    have : (u : Rat) * (b : Rat) ≠ 0 := by
      rw [← Rat.intCast_mul]
      exact rat_ne (by omega)
    exact this e.symm
  unfold WoS
  omega
end
theorem mulq_bd {p q : Rat} (hp : 0 ≤ p.num) (hq : 0 ≤ q.num) : 0 ≤ (p * q).num ∧ (p * q).num ≤ p.num * q.num ∧ ((p * q).den : Int) ≤ p.den * q.den := by
  have hpd := den_pos p
  have hqd := den_pos q
  have h0 : 0 < (p.den : Int) * q.den := Int.mul_pos hpd hqd
  have e : p * q = ((p.num * q.num : Int) : Rat) / (((p.den : Int) * q.den : Int) : Rat) := by
    rw [Rat.intCast_mul, Rat.intCast_mul]
    have hp' := num_den_of p
    have hq' := num_den_of q
    have a1 : ((p.den : Int) : Rat) ≠ 0 := rat_ne (by omega)
    have a2 : ((q.den : Int) : Rat) ≠ 0 := rat_ne (by omega)
    generalize ((p.den : Int) : Rat) = pd at *
    generalize ((q.den : Int) : Rat) = qd at *
    generalize (p.num : Rat) = pn at *
    generalize (q.num : Rat) = qn at *
    subst hp'
    subst hq'
    grind
  have h1 : 0 ≤ p.num * q.num := Int.mul_nonneg hp hq
  have h4 := frac_bd h0 e
  have h5 := frac_nn h0 h1 e
  generalize p.num * q.num = a at *
  generalize (p.den : Int) * q.den = c at *
  omega
theorem wmul_sm {p q : Rat} (hp : WoS p) (hq : PrS q) : (0 ≤ (p * q).num ∧ (p * q).num ≤ 23040000000) ∧ ((p * q).den : Int) ≤ 57600000 := by
  obtain ⟨p1, p2, p3⟩ := hp
  obtain ⟨q1, q2, q3⟩ := hq
  obtain ⟨h1, h2, h3⟩ := mulq_bd (p := p) (q := q) (by omega) (by omega)
  have hpd := den_pos p
  have hqd := den_pos q
  have a1 : p.num * q.num ≤ 480000 * 48000 := Int.mul_le_mul p2 q2 (by omega) (by omega)
  have a2 : (p.den : Int) * q.den ≤ 48000 * 1200 := Int.mul_le_mul p3 q3 (by omega) (by omega)
  omega
theorem wmul_use (p q : Rat) (w : World) (hp : WoS p) (hq : PrS q) : Calls Try.prog 19 #[.agg #[.int .i64 p.num, .int .i64 (p.den : Int)], .agg #[.int .i64 q.num, .int .i64 (q.den : Int)]] w fun e w' => e = .returned (.agg #[.int .i64 (p * q).num, .int .i64 ((p * q).den : Int)]) ∧ Below w.heap.size w w' := by
  obtain ⟨p1, p2, p3⟩ := hp
  obtain ⟨q1, q2, q3⟩ := hq
  have hpd := den_pos p
  have hqd := den_pos q
  have a0 : 0 ≤ p.num * q.num := Int.mul_nonneg (by omega) (by omega)
  have a1 : p.num * q.num ≤ 480000 * 48000 := Int.mul_le_mul p2 q2 (by omega) (by omega)
  have a2 : (p.den : Int) * q.den ≤ 48000 * 1200 := Int.mul_le_mul p3 q3 (by omega) (by omega)
  exact rmul_raw p q w (by omega) (by omega) (by omega)
theorem wall_use (p : Rat) (z : Int) (w : World) (hp : WoS p) (hz : 0 ≤ z ∧ z ≤ 1000) : (Calls Try.prog 19 #[.agg #[.int .i64 p.num, .int .i64 (p.den : Int)], .agg #[.int .i64 z, .int .i64 1]] w fun e w' => e = .returned (.agg #[.int .i64 (p * (z : Rat)).num, .int .i64 ((p * (z : Rat)).den : Int)]) ∧ Below w.heap.size w w') ∧
    (0 ≤ (p * (z : Rat)).num ∧ (p * (z : Rat)).num ≤ 480000000) ∧ ((p * (z : Rat)).den : Int) ≤ 48000 := by
  obtain ⟨p1, p2, p3⟩ := hp
  obtain ⟨h1, h2, h3⟩ := mulq_bd (p := p) (q := (z : Rat)) (by omega) (by rw [Rat.num_intCast]; omega)
  rw [Rat.num_intCast] at h2
  rw [Rat.den_intCast] at h3
  have hpd := den_pos p
  have a0 : 0 ≤ p.num * z := Int.mul_nonneg (by omega) hz.1
  have a1 : p.num * z ≤ 480000 * 1000 := Int.mul_le_mul p2 hz.2 hz.1 (by omega)
  have h4 := rmul_raw p (z : Rat) w (by rw [Rat.num_intCast]; omega) (by rw [Rat.num_intCast]; omega) (by rw [Rat.den_intCast]; omega)
  unfold fr at h4
  rw [Rat.num_intCast, Rat.den_intCast] at h4
  exact ⟨h4, ⟨h1, by omega⟩, by omega⟩
theorem wless_use (x : Rat) (z : Int) (w : World) (h1 : (0 ≤ x.num ∧ x.num ≤ 23040000000) ∧ (x.den : Int) ≤ 57600000) (hz : 0 ≤ z ∧ z ≤ 10000) (h : ((z : Int) : Rat) ≤ x) : Calls Try.prog 22 #[.agg #[.int .i64 x.num, .int .i64 (x.den : Int)], .agg #[.int .i64 z, .int .i64 1]] w fun e w' => e = .returned (.bool false) ∧ Below w.heap.size w w' := by
  have hd := den_pos x
  have a0 : 0 ≤ z * (x.den : Int) := Int.mul_nonneg hz.1 (by omega)
  have a1 : z * (x.den : Int) ≤ 10000 * 57600000 := Int.mul_le_mul hz.2 h1.2 (by omega) (by omega)
  have h4 := rless_any x (z : Rat) w (by rw [Rat.den_intCast]; omega) (by rw [Rat.den_intCast]; omega) (by rw [Rat.num_intCast]; omega) (by rw [Rat.num_intCast]; omega)
  unfold fr at h4
  rw [Rat.num_intCast, Rat.den_intCast, decide_eq_false (by grind)] at h4
  exact h4

/- MarketFair: the walk. -/

theorem w64 {z : Int} (h : -1000000000000 ≤ z ∧ z ≤ 1000000000000) : wrap64 z = z := by
  unfold wrap64
  go_num
theorem sumZ_bd {f : Nat → Int} {m : Int} {n : Nat} (h : ∀ i, i < n → 0 ≤ f i ∧ f i ≤ m) : 0 ≤ sumZ f n ∧ sumZ f n ≤ m * n := by
  induction n with
  | zero => simp [sumZ]
  | succ n ih =>
    have h1 := ih fun i hi => h i (by omega)
    have h2 := h n (by omega)
    have e : m * ((n + 1 : Nat) : Int) = m * (n : Int) + m := by rw [Int.natCast_add, Int.mul_add]; simp
    rw [e]
    simp only [sumZ]
    omega
/-- Making a fraction's variable. -/
theorem al_frac7 {Q : Exit → Act → World → Prop} (o : Oper) (a : Act) (w' : World) (K : Act → World → Prop) (ho : isAl 37 o = true) (hK : K (a.put o.dst (ptrB w'.heap.size)) (w'.alloc (.cells #[.int .i64 0, .int .i64 0] 37))) : o.wp Try.prog a w' K Q := by
  unfold isAl at ho
  split at ho
  · rename_i t ht
    simp only [Bool.and_eq_true, beq_iff_eq] at ho
    obtain ⟨rfl, _⟩ := ho
    unfold Oper.wp execOp
    rw [ht]
    have hr : ∀ w : World, (newVar 37 (.agg #[.int .i64 0, .int .i64 0])).run Try.prog w = .ok ⟨w.heap.size, 0, none⟩ (w.alloc (.cells #[.int .i64 0, .int .i64 0] 37)) := fun w => by kernel_rfl
    simp [go_sem, Oper.upon]
    exact hK
  · cases ho
theorem run_eq_frac7 (p q : Rat) (w : World) : (binOp .eql 37 (.agg #[.int .i64 p.num, .int .i64 (p.den : Int)]) (.agg #[.int .i64 q.num, .int .i64 (q.den : Int)])).run Try.prog w = .ok (.bool (decide (p = q))) w := by
  have e0 : decide (p = q) = (decide (p.num = q.num) && decide ((p.den : Int) = (q.den : Int))) := by
    rw [Bool.eq_iff_iff]
    simp only [decide_eq_true_eq, Bool.and_eq_true]
    exact ⟨by rintro rfl; exact ⟨rfl, rfl⟩, fun h => Rat.ext h.1 (by omega)⟩
  rw [e0]
  by_cases h1 : p.num = q.num
  · by_cases h2 : (p.den : Int) = (q.den : Int)
    · simp only [h1, h2]; go_simp
    · simp only [h1]; go_simp
  · go_simp
theorem l4whole_use (n : Int) (w : World) : Calls Try.prog 20 #[.int .i64 n] w fun e w' => e = .returned (.agg #[.int .i64 n, .int .i64 1]) ∧ Below w.heap.size w w' :=
  (l4whole_any n w).mono fun _ _ h => ⟨h.1, h.2⟩
/-- Whether one of the first goods is as good as can be. -/
def besTo (V : List (List Int)) (P : List Rat) (W : Rat) (b : Int) (i : Nat) : Nat → Bool
  | 0 => false
  | g + 1 => besTo V P W b i g || decide (W * priQ P g = ((useN V i g * b : Int) : Rat))
theorem besTo_of {V : List (List Int)} {P : List Rat} {W : Rat} {b : Int} {i k g0 : Nat} (h0 : g0 < k) (h : W * priQ P g0 = ((useN V i g0 * b : Int) : Rat)) : besTo V P W b i k = true := by
  induction k with
  | zero => omega
  | succ k ih =>
    simp only [besTo, Bool.or_eq_true, decide_eq_true_eq]
    rcases Nat.lt_or_ge g0 k with h1 | h1
    · exact .inl (ih h1)
    · exact .inr (by rw [show k = g0 by omega]; exact h)
set_option maxRecDepth 100000 in
set_option maxHeartbeats 4000000 in
theorem law_mfair (A : Option Addr) (n c : Nat) (U : Option Addr) (m d : Nat) (B : List Int) (V : List (List Int)) (W : World) (hK : MktArg W A n c U m d B V) :
    Calls Try.prog 8 #[mktV A n c U m d] W fun e w' => e = .returned (.bool true) ∧ Below W.heap.size W w' := by
  have hC1 := Ch.start W A n c U m d
  obtain ⟨w1, hw1⟩ : ∃ w1, w1 = W.alloc (.cells #[.slice A n c, .slice U m d] 25) := ⟨_, rfl⟩
  rw [← hw1] at hC1
  have HK := Lib.hid hK
  have HC1 := Lib.hid hC1
  obtain ⟨m1, m2, _, _⟩ := hC1.1.at2
  clear hK hC1
  unfold mktV
  go_enter Try.func8, Try.ntmps8
  go_wp2_with fail
  rw [← hw1]
  clear hw1
  refine ((HK.out.below HC1.out.2).of).mono ?_
  rintro e w2 ⟨A2, n2, c2, U2, q2, d2, b2, vs2, rfl, hO2⟩
  have HC2 := Lib.hid (HC1.out.next hO2.below)
  have HO2 := Lib.hid hO2
  clear hO2 m1 m2
  go_wp2_with fail
  refine (of_prices HO2.out).mono ?_
  intro ev w3 hpost
  unfold PricesPost at hpost
  obtain ⟨hb3, hpost⟩ := hpost
  have HC3 := Lib.hid (HC2.out.next hb3)
  clear hb3
  obtain ⟨m1, m2, _, _⟩ := HC3.out.1.at2
  cases hp : prF B V with
  | none =>
    rw [hp] at hpost
    subst hpost
    have HP := Lib.hid hp
    clear hp
    go_wp2_with fail
    refine ((HK.out.below HC3.out.2).of).mono ?_
    rintro e w4 ⟨A4, n4, c4, U4, q4, d4, b4, vs4, rfl, hO4⟩
    have HC4 := Lib.hid (HC3.out.next hO4.below)
    have HO4 := Lib.hid hO4
    clear hO4 m1 m2
    go_wp2_with fail
    refine (of_worth HO4.out).mono ?_
    intro ev w5 hpost
    unfold WorthPost at hpost
    rw [HP.out] at hpost
    obtain ⟨hb5, rfl⟩ := hpost
    have HC5 := Lib.hid (HC4.out.next hb5)
    clear hb5
    go_wp2_with fail
    refine (l4awake_any _).mono ?_
    rintro e w6 ⟨rfl, hb6⟩
    have HC6 := Lib.hid (HC5.out.next hb6)
    clear hb6
    go_wp2_with fail
    go_ret
    exact ⟨rfl, HC6.out.2⟩
  | some r =>
    rw [hp] at hpost
    obtain ⟨PA, pc, rfl, hown3⟩ := hpost
    have hpr := prF_ok hp
    have hpl := hpr.2.lp
    have hg3 := (validM_iff.1 hpr.1).2.1
    have hn3 := (validM_iff.1 hpr.1).1
    have hnB := HK.out.mkt.hB
    obtain ⟨k, hk⟩ : ∃ k, k = goodsN V := ⟨_, rfl⟩
    rw [← hk] at hg3 hpl
    have hfr3 := Fracs.of_cells (At.of_own hown3)
    have HP := Lib.hid (And.intro hp (And.intro hpr (And.intro hpl (And.intro hk hn3))))
    have HF3 := Lib.hid hfr3
    rw [hpl]
    have hn13 : 1 ≤ n ∧ n ≤ 3 := by omega
    clear hp hpr hpl hk hown3 hfr3 hn3
    go_wp2_with fail
    refine ((HK.out.below HC3.out.2).of).mono ?_
    rintro e w4 ⟨A4, n4, c4, U4, q4, d4, b4, vs4, rfl, hO4⟩
    have HC4 := Lib.hid (HC3.out.next hO4.below)
    have HO4 := Lib.hid hO4
    have HF4 := Lib.hid (HF3.out.below hO4.below')
    clear hO4 m1 m2
    go_wp2_with fail
    refine (of_worth HO4.out).mono ?_
    intro ev w5 hpost
    unfold WorthPost at hpost
    rw [HP.out.1] at hpost
    obtain ⟨hb5, WA, wc5, rfl, hF5⟩ := hpost
    have HC5 := Lib.hid (HC4.out.next hb5)
    have HF5 := Lib.hid (And.intro (HF4.out.below hb5) hF5)
    obtain ⟨m1, m2, _, _⟩ := HC5.out.1.at2
    have HV := Lib.hid (HK.out.below HC5.out.2).valid
    rw [HP.out.2.1.1] at HV
    rw [hnB]
    clear hb5 hF5
    go_wp2_with fail
    refine HV.out.mono ?_
    rintro e w6 ⟨rfl, hb6⟩
    have HC6 := Lib.hid (HC5.out.next hb6)
    have HF6 := Lib.hid (And.intro (HF5.out.1.below hb6) (HF5.out.2.below hb6))
    clear hb6 m1 m2 HV
    obtain ⟨m1, m2, _, _⟩ := HC6.out.1.at2
    have hmV := HK.out.mkt.hV
    have hvl := (validM_iff.1 HP.out.2.1.1).1
    have HRP := Lib.hid (r4prices_any A n c U m d PA pc B V (r.1.map pr) w6 (HK.out.mkt.below HC6.out.2) (by omega) HF6.out.1 (by rw [List.length_map, HP.out.2.2.1]; omega) (prices_i64 HP.out.2.1.2.ps))
    have hpk : prsOk V (r.1.map pr) = true := by
      unfold prsOk
      rw [prices_okF HP.out.2.1.2.ps, List.length_map, decide_eq_true HP.out.2.1.2.lp]
      rfl
    rw [hpk, List.length_map, HP.out.2.2.1] at HRP
    clear hpk hvl
    go_wp2_with fail
    refine HRP.out.mono ?_
    rintro e w7 ⟨rfl, hb7⟩
    have HC7 := Lib.hid (HC6.out.next hb7)
    have HF7 := Lib.hid (And.intro (HF6.out.1.below hb7) (HF6.out.2.below hb7))
    clear hb7 m1 m2 HRP
    obtain ⟨m1, m2, _, _⟩ := HC7.out.1.at2
    obtain ⟨aB, hA, hAl, hcB⟩ := HK.out.mkt.budgets.some_ (by omega)
    have hbd : ∀ i, i < n → 0 ≤ B.getD i 0 ∧ B.getD i 0 ≤ 20 := fun i hi => by
      have := HP.out.2.2.2.2.2.2.1 (B.getD i 0) (by
        rw [List.getD_eq_getElem?_getD, List.getElem?_eq_getElem (by omega)]
        exact List.getElem_mem _)
      omega
    have hgB : ∀ i, i < n → B[i]? = some (B.getD i 0) := fun i hi => by
      rw [List.getD_eq_getElem?_getD, List.getElem?_eq_getElem (by omega)]; rfl
    have HB := Lib.hid (And.intro hAl (And.intro hcB (And.intro hbd (And.intro hgB hnB))))
    subst hA
    clear hAl hcB hbd hgB
    go_wp2_with fail
    clear m1 m2
    go_loopw [7, 65] (fun av iv wx => ∃ i : Nat, i ≤ n ∧ iv = .int .i64 i ∧ av = .int .i64 (sumZ (fun i => B.getD i 0) i) ∧ Below w7.heap.size w7 wx) (fun _ iv _ => n - (intOf iv).toNat)
    case atStart => exact ⟨0, Nat.zero_le _, rfl, rfl, Below.refl _ _⟩
    case round =>
      obtain ⟨i, hi, rfl, rfl, hbl⟩ := hrel
      have HR := Lib.hid hbl
      clear hbl
      by_cases hin : i < n
      · have hb7 := HC7.out.2.trans (HR.out.mono HC7.out.2.size)
        have hx := HB.out.2.1 i _ (HB.out.2.2.2.1 i hin)
        have c1 := (hb7.cell (lt_of_cell hx)).trans hx
        have hs := sumZ_bd (f := fun i => B.getD i 0) (m := 20) (n := i) (fun j hj => HB.out.2.2.1 j (by omega))
        have hb := HB.out.2.2.1 i hin
        have hnx : sumZ (fun i => B.getD i 0) (i + 1) = sumZ (fun i => B.getD i 0) i + B.getD i 0 := rfl
        generalize sumZ (fun i => B.getD i 0) i = s at *
        generalize B.getD i 0 = b at *
        have hw : wrap64 (s + b) = s + b := w64 (by omega)
        have HN := Lib.hid hnx
        clear hnx hx hb7
        go_wp2_with fail
        go_roundw
        case rel => exact ⟨i + 1, by omega, by go_num, by rw [HN.out], HR.out⟩
        case measure => simp [intOf]; omega
      · obtain rfl : n = i := by omega
        have HC8 := Lib.hid (And.intro (HC7.out.next HR.out) HR.out)
        obtain ⟨w8, rfl⟩ : ∃ w8 : World, w8 = wr := ⟨_, rfl⟩
        obtain ⟨m1, m2, _, _⟩ := HC8.out.1.1.at2
        have HF8 := Lib.hid (And.intro (HF7.out.1.below HR.out) (HF7.out.2.below HR.out))
        obtain ⟨all, hall⟩ : ∃ s, s = sumZ (fun i => B.getD i 0) n := ⟨_, rfl⟩
        have hab := sumZ_bd (f := fun i => B.getD i 0) (m := 20) (n := n) (fun j hj => HB.out.2.2.1 j (by omega))
        rw [← hall] at hab ⊢
        have HALL := Lib.hid hall
        clear hall
        go_wp2_with fail
        clear m1 m2
        go_loopw [76] (fun iv wx => ∃ i : Nat, i ≤ n ∧ iv = .int .i64 i ∧ Below w8.heap.size w8 wx) (fun iv _ => n - (intOf iv).toNat)
        case atStart => exact ⟨0, Nat.zero_le _, rfl, Below.refl _ _⟩
        case round =>
          obtain ⟨i, hi, rfl, hbl⟩ := hrel
          obtain ⟨wo, rfl⟩ : ∃ wo : World, wo = wr := ⟨_, rfl⟩
          have HR2 := Lib.hid hbl
          have HC9 := Lib.hid (HC8.out.1.next hbl)
          clear hbl
          by_cases hin : i < n
          · have hiB : i < B.length := by omega
            have hsm := fair_sm HP.out.2.1.1 HP.out.2.1.2 hiB
            have hgW : (worL V B.length (goodsN V) r)[i]? = some (worTo V r.1 r.2 i (goodsN V)) := by
              unfold worL
              rw [List.getElem?_map, List.getElem?_range hiB]; rfl
            obtain ⟨aW, hWA, _, hcW⟩ := (HF8.out.2.below HR2.out).some_ (by unfold worL; rw [List.length_map, List.length_range]; omega)
            subst hWA
            obtain ⟨v1, v2⟩ := hcW i _ hgW
            have hx := HB.out.2.1 i _ (HB.out.2.2.2.1 i hin)
            have c1 := (HC9.out.2.cell (lt_of_cell hx)).trans hx
            have hb := HB.out.2.2.1 i hin
            obtain ⟨Wi, hWi⟩ : ∃ q, q = worTo V r.1 r.2 i (goodsN V) := ⟨_, rfl⟩
            rw [← hWi] at hsm v1 v2
            obtain ⟨b, hbe⟩ : ∃ b, b = B.getD i 0 := ⟨_, rfl⟩
            rw [← hbe] at c1 hb
            have HWI := Lib.hid (And.intro hWi (And.intro hbe (And.intro v1 (And.intro v2 hsm))))
            obtain ⟨s1, s2, s3⟩ := hsm
            have hlow : lowB Wi.num Wi.den = true := by
              have hd := den_pos Wi
              unfold lowB
              rw [decide_eq_true (by omega), decide_eq_true (by omega), rat_lowest Wi]
              rfl
            have HLO := Lib.hid fun w' => rlowest_any Wi.num Wi.den w' (by omega) (by omega) (by omega)
            rw [hlow] at HLO
            have n1 : ¬ Wi.num < 1 := by omega
            have n2 : ¬ (1048576 : Int) < Wi.num := by omega
            have n3 : ¬ (1048576 : Int) < (Wi.den : Int) := by omega
            clear hgW hcW hx hWi hbe hlow s1 s2 s3
            go_wp2_with fail
            refine (HLO.out _).mono ?_
            rintro e w10 ⟨rfl, hb10⟩
            have HC10 := Lib.hid (And.intro (HC9.out.next hb10) (HR2.out.trans (hb10.mono HR2.out.size)))
            clear v1 v2 HLO
            have v1 := (hb10.cell (lt_of_cell HWI.out.2.2.1)).trans HWI.out.2.2.1
            have v2 := (hb10.cell (lt_of_cell HWI.out.2.2.2.1)).trans HWI.out.2.2.2.1
            obtain ⟨m1, m2, _, _⟩ := HC10.out.1.1.at2
            have HUM := Lib.hid (HK.out.mkt.uses.below HC10.out.1.2)
            obtain ⟨aU, hUA, _, hcU⟩ := HUM.out.some_ (by have := (validM_iff.1 HP.out.2.1.1).1.2.2.2; omega)
            subst hUA
            have hiV : i < V.length := by have := (validM_iff.1 HP.out.2.1.1).1.2.2.2; omega
            obtain ⟨aR0, cR, hcR, _, _, hIR⟩ := hcU i _ (rowV_some hiV)
            have hrl : (rowV V i).length = k := by rw [HP.out.2.2.2.1]; exact (mkOk_of HP.out.2.1.1).2.1 i hiB
            rw [hrl] at hcR
            obtain ⟨aR, rfl, _, hcI⟩ := hIR.some_ (by rw [hrl]; omega)
            have hug : ∀ g, g < k → 0 ≤ useN V i g ∧ useN V i g ≤ 20 := fun g _ => (mkOk_of HP.out.2.1.1).2.2 i g
            have hcu : ∀ g, g < k → w10.cell? (aR.add g) = some (.int .i64 (useN V i g)) := fun g hg => hcI g _ (by
              unfold useN
              rw [List.getD_eq_getElem?_getD, List.getElem?_eq_getElem (by omega)]; rfl)
            have l1 : (i : Int) < (m : Int) := by have := HK.out.mkt.hV; omega
            have HU := Lib.hid (And.intro hug hcu)
            clear hcU hIR hcI hrl hug hcu HUM hiV
            go_wp2_with fail
            clear hcR m1 m2 v1 v2
            have HV10 := Lib.hid (And.intro ((hb10.cell (lt_of_cell HWI.out.2.2.1)).trans HWI.out.2.2.1) ((hb10.cell (lt_of_cell HWI.out.2.2.2.1)).trans HWI.out.2.2.2.1))
            clear hb10
            go_loopw [12, 13, 117] (fun sv bv iv wx => ∃ g : Nat, g ≤ k ∧ iv = .int .i64 g ∧ sv = .int .i64 (sumZ (fun g => useN V i g) g) ∧ bv = .bool (besTo V r.1 Wi b i g) ∧ Below w10.heap.size w10 wx) (fun _ _ iv _ => k - (intOf iv).toNat)
            case atStart => exact ⟨0, Nat.zero_le _, rfl, rfl, rfl, Below.refl _ _⟩
            case round =>
              obtain ⟨g, hg, rfl, rfl, rfl, hbl⟩ := hrel
              obtain ⟨wi, rfl⟩ : ∃ wi : World, wi = wr := ⟨_, rfl⟩
              have HR3 := Lib.hid hbl
              clear hbl
              have hs := sumZ_bd (f := fun g => useN V i g) (m := 20) (n := g) (fun j hj => HU.out.1 j (by omega))
              by_cases hgk : g < k
              · have hgG : g < goodsN V := by rw [← HP.out.2.2.2.1]; exact hgk
                have hge := fair_ge HP.out.2.1.1 HP.out.2.1.2 hiB hgG
                have hps := pri_sm HP.out.2.1.2 hgG
                have hx := HU.out.2 g hgk
                have c2 := (HR3.out.cell (lt_of_cell hx)).trans hx
                have hu := HU.out.1 g hgk
                have hgp : r.1[g]? = some (priQ r.1 g) := by
                  unfold priQ
                  rw [List.getD_eq_getElem?_getD, List.getElem?_eq_getElem (by rw [HP.out.2.2.1]; exact hgk)]; rfl
                obtain ⟨aP, hPA, _, hcP⟩ := ((HF8.out.1.below HC10.out.2).below HR3.out).some_ (by rw [HP.out.2.2.1]; omega)
                subst hPA
                obtain ⟨p1, p2⟩ := hcP g _ hgp
                have v1 := (HR3.out.cell (lt_of_cell HV10.out.1)).trans HV10.out.1
                have v2 := (HR3.out.cell (lt_of_cell HV10.out.2)).trans HV10.out.2
                have hnx : sumZ (fun g => useN V i g) (g + 1) = sumZ (fun g => useN V i g) g + useN V i g := rfl
                have hbx : besTo V r.1 Wi b i (g + 1) = (besTo V r.1 Wi b i g || decide (Wi * priQ r.1 g = ((useN V i g * b : Int) : Rat))) := rfl
                have hubd : 0 ≤ useN V i g * b ∧ useN V i g * b ≤ 400 := by
                  have h1 := Int.mul_nonneg hu.1 hb.1
                  have h2 : useN V i g * b ≤ 20 * 20 := Int.mul_le_mul hu.2 hb.2 hb.1 (by omega)
                  omega
                have hge' : ((useN V i g * b : Int) : Rat) ≤ Wi * priQ r.1 g := by
                  rw [HWI.out.1, HWI.out.2.1, Rat.intCast_mul]
                  exact hge
                have HQ := Lib.hid (And.intro hnx (And.intro hbx (And.intro hps (And.intro hge' (And.intro p1 (And.intro p2 (And.intro v1 v2)))))))
                clear hge hps hx hgp hcP p1 p2 v1 v2 hnx hbx hge' hgG
                generalize sumZ (fun g => useN V i g) g = s at *
                generalize besTo V r.1 Wi b i g = bt at *
                generalize useN V i g = u at *
                generalize priQ r.1 g = pg at *
                have hw : wrap64 (s + u) = s + u := w64 (by omega)
                obtain ⟨z, hz⟩ : ∃ z, z = u * b := ⟨_, rfl⟩
                have hwm : wrap64 (u * b) = z := by rw [hz]; exact w64 (by omega)
                rw [← hz] at hubd HQ
                have l3 : (g : Int) < (k : Int) := by omega
                have l4 : (0 : Int) ≤ (g : Int) := by omega
                have l5 : (i : Int) < (n : Int) := by omega
                have l6 : (0 : Int) ≤ (i : Int) := by omega
                clear hz
                go_upto_region 23 with fail
                have HMU := Lib.hid fun w' => wmul_use Wi pg w' HWI.out.2.2.2.2 HQ.out.2.2.1
                have hxs := wmul_sm HWI.out.2.2.2.2 HQ.out.2.2.1
                have hlx := HQ.out.2.2.2.1
                have hbx := HQ.out.2.1
                obtain ⟨x, hx⟩ : ∃ x, x = Wi * pg := ⟨_, rfl⟩
                rw [← hx] at HMU hxs hlx hbx
                have HLS := Lib.hid fun w' => wless_use x z w' hxs (by omega) hlx
                have HWH := Lib.hid fun w' => l4whole_use z w'
                have HBX := Lib.hid (And.intro HQ.out.1 hbx)
                have hqe := run_eq_frac7 x ((z : Int) : Rat)
                rw [Rat.num_intCast, Rat.den_intCast] at hqe
                have d1 : ∀ A' (s : DescA wi 37 #[.int .i64 0, .int .i64 0] A'), s.val.cell? (aW.add (i * 2)) = some (.int .i64 Wi.num) := fun A' s => s.cell HQ.out.2.2.2.2.2.2.1
                have d2 : ∀ A' (s : DescA wi 37 #[.int .i64 0, .int .i64 0] A'), s.val.cell? ⟨(aW.add (i * 2)).block, (aW.add (i * 2)).off + 1, none⟩ = some (.int .i64 (Wi.den : Int)) := fun A' s => s.cell HQ.out.2.2.2.2.2.2.2
                have d3 : ∀ A' (s : DescA wi 37 #[.int .i64 0, .int .i64 0] A'), s.val.cell? (aP.add (g * 2)) = some (.int .i64 pg.num) := fun A' s => s.cell HQ.out.2.2.2.2.1
                have d4 : ∀ A' (s : DescA wi 37 #[.int .i64 0, .int .i64 0] A'), s.val.cell? ⟨(aP.add (g * 2)).block, (aP.add (g * 2)).off + 1, none⟩ = some (.int .i64 (pg.den : Int)) := fun A' s => s.cell HQ.out.2.2.2.2.2.1
                have HD := Lib.hid (And.intro d1 (And.intro d2 (And.intro d3 d4)))
                have hws := HR3.out.size
                clear d1 d2 d3 d4 hxs hlx hbx c1 c2 hs hx
                refine' wp_region_desc_alloc 13 2 37 #[.int .i64 0, .int .i64 0] al_frac7 (by kernel_rfl) (by kernel_rfl) (by kernel_rfl) (by kernel_rfl) _ ?hh ?hq
                case hh =>
                  intro A' hne Q' hQ'
                  have e1 := HD.out.1 A'
                  have e2 := HD.out.2.1 A'
                  have e3 := HD.out.2.2.1 A'
                  have e4 := HD.out.2.2.2 A'
                  have HW2 : Hid (∀ sd : DescA wi 37 #[.int .i64 0, .int .i64 0] A', Calls Try.prog 20 #[.int .i64 z] sd.val fun e w'' => e = .returned (.agg #[.int .i64 z, .int .i64 1]) ∧ ∃ s' : DescA wi 37 #[.int .i64 0, .int .i64 0] A', w'' = s'.val) := Lib.hid fun sd => Calls.descA_of (HWH.out _)
                  have HM2 : Hid (∀ sd : DescA wi 37 #[.int .i64 0, .int .i64 0] A', Calls Try.prog 19 #[.agg #[.int .i64 Wi.num, .int .i64 (Wi.den : Int)], .agg #[.int .i64 pg.num, .int .i64 (pg.den : Int)]] sd.val fun e w'' => e = .returned (.agg #[.int .i64 x.num, .int .i64 (x.den : Int)]) ∧ ∃ s' : DescA wi 37 #[.int .i64 0, .int .i64 0] A', w'' = s'.val) := Lib.hid fun sd => Calls.descA_of (HMU.out _)
                  simp only [List.take_succ_cons, List.take_zero]
                  repeat (go_big_quiet_step (first | (go_at_call 20; exact HW2.out _) | (go_at_call 19; exact HM2.out _)))
                  refine wpQuiet_nil ?_
                  exact hQ'
                case hq =>
                  simp only [List.take_succ_cons, List.take_zero, List.drop_succ_cons, List.drop_zero]
                  intro g5 _ g6 hg6 sd
                  have hb3 := sd.below
                  obtain ⟨z5, B5⟩ := sd.blks g5 (.inr (.inl rfl))
                  obtain ⟨z6, B6⟩ := sd.blks g6 (.inl rfl)
                  have hne : g5 ≠ g6 := fun h => hg6 (.inl h.symm)
                  have hne2 : g6 ≠ g5 := fun h => hne h.symm
                  generalize sd.val = w4 at hb3 B5 B6 ⊢
                  obtain ⟨a0, a1, k0, k1⟩ := B5.at2
                  obtain ⟨b0, b1, m0, m1⟩ := B6.at2
                  have hb4 := ((((HR3.out.trans (hb3.mono hws)).setCell (p := ⟨g5, 0, none⟩) (by show w10.heap.size ≤ g5; omega) (.int .i64 x.num)).setCell (p := ⟨g5, 1, none⟩) (by show w10.heap.size ≤ g5; omega) (.int .i64 (x.den : Int))).setCell (p := ⟨g6, 0, none⟩) (by show w10.heap.size ≤ g6; omega) (.int .i64 z)).setCell (p := ⟨g6, 1, none⟩) (by show w10.heap.size ≤ g6; omega) (.int .i64 1)
                  have hX := ((((B5.set_ 0 (.int .i64 x.num)).set_ 1 (.int .i64 (x.den : Int))).far (p := ⟨g6, 0, none⟩) hne (.int .i64 z)).far (p := ⟨g6, 1, none⟩) hne (.int .i64 1))
                  have hY := (((B6.far (p := ⟨g5, 0, none⟩) hne2 (.int .i64 x.num)).far (p := ⟨g5, 1, none⟩) hne2 (.int .i64 (x.den : Int))).set_ 0 (.int .i64 z)).set_ 1 (.int .i64 1)
                  have H4 := Lib.hid (And.intro hb4 (And.intro hX (And.intro hY (And.intro hX.lt hY.lt))))
                  clear hb3 hb4 B5 B6 hg6 hX hY
                  unfold ptrB
                  go_wp2_with fail
                  refine (HLS.out _).mono ?_
                  rintro e w11 ⟨rfl, hb11⟩
                  have HB11 := Lib.hid (H4.out.1.trans (hb11.mono H4.out.1.size))
                  obtain ⟨x0, x1, _, _⟩ := (H4.out.2.1.below hb11 H4.out.2.2.2.1).at2
                  obtain ⟨y0, y1, _, _⟩ := (H4.out.2.2.1.below hb11 H4.out.2.2.2.2).at2
                  clear a0 a1 k0 k1 b0 b1 m0 m1 hb11 hne hne2
                  cases bt with
                  | true =>
                    go_wp2_with fail
                    go_roundw
                    case rel => exact ⟨g + 1, by omega, by go_num, by rw [HBX.out.1], by rw [HBX.out.2, Bool.true_or], HB11.out⟩
                    case measure => simp [intOf]; omega
                  | false =>
                    by_cases h1 : x.num = z
                    · by_cases h2 : (x.den : Int) = 1
                      · have hxz : decide (x = ((z : Int) : Rat)) = true := decide_eq_true (Rat.ext (by rw [Rat.num_intCast]; exact h1) (by rw [Rat.den_intCast]; omega))
                        rw [h1] at x0
                        rw [h2] at x1
                        have HXZ := Lib.hid hxz
                        clear h1 h2 hxz hqe
                        go_wp2_with fail
                        go_roundw
                        case rel => exact ⟨g + 1, by omega, by go_num, by rw [HBX.out.1], by rw [HBX.out.2, HXZ.out, Bool.false_or], HB11.out⟩
                        case measure => simp [intOf]; omega
                      · have hxz : decide (x = ((z : Int) : Rat)) = false := decide_eq_false (fun h => h2 (by rw [h, Rat.den_intCast]; rfl))
                        have HXZ := Lib.hid hxz
                        clear hxz hqe
                        go_wp2_with fail
                        go_roundw
                        case rel => exact ⟨g + 1, by omega, by go_num, by rw [HBX.out.1], by rw [HBX.out.2, HXZ.out, Bool.false_or], HB11.out⟩
                        case measure => simp [intOf]; omega
                    · have hxz : decide (x = ((z : Int) : Rat)) = false := decide_eq_false (fun h => h1 (by rw [h, Rat.num_intCast]))
                      have HXZ := Lib.hid hxz
                      clear hxz hqe
                      go_wp2_with fail
                      go_roundw
                      case rel => exact ⟨g + 1, by omega, by go_num, by rw [HBX.out.1], by rw [HBX.out.2, HXZ.out, Bool.false_or], HB11.out⟩
                      case measure => simp [intOf]; omega
              · obtain rfl : g = k := by omega
                obtain ⟨g0, hg0, hu0, heq, _⟩ := wor_form HP.out.2.1.1 HP.out.2.1.2 hiB
                have hbt : besTo V r.1 Wi b i g = true := besTo_of (g0 := g0) (by rw [HP.out.2.2.2.1]; exact hg0) (by rw [HWI.out.1, heq, HWI.out.2.1, Rat.intCast_mul]; rfl)
                have hsu := fair_sum HP.out.2.1.1 HP.out.2.1.2 hiB
                have hsu' : ((sumZ (fun g => useN V i g) g * b : Int) : Rat) ≤ Wi * ((all : Int) : Rat) := by
                  rw [HALL.out, HWI.out.1, HWI.out.2.1, Rat.intCast_mul, ← sumZ_Q, ← sumZ_Q, HP.out.2.2.2.1, ← hnB]
                  exact hsu
                rw [hbt]
                have hall2 := wall_use Wi all
                have hba : 0 ≤ all ∧ all ≤ 1000 := by omega
                have v1 := (HR3.out.cell (lt_of_cell HV10.out.1)).trans HV10.out.1
                have v2 := (HR3.out.cell (lt_of_cell HV10.out.2)).trans HV10.out.2
                generalize sumZ (fun g => useN V i g) g = s at *
                have hsb : 0 ≤ s * b ∧ s * b ≤ 1200 := by
                  have h1 := Int.mul_nonneg hs.1 hb.1
                  have h2 : s * b ≤ 60 * 20 := Int.mul_le_mul (by omega) hb.2 hb.1 (by omega)
                  omega
                obtain ⟨z, hz⟩ : ∃ z, z = s * b := ⟨_, rfl⟩
                have hwm : wrap64 (s * b) = z := by rw [hz]; exact w64 (by omega)
                rw [← hz] at hsb hsu'
                have hxs := (hall2 wi HWI.out.2.2.2.2 hba).2
                obtain ⟨x, hx⟩ : ∃ x, x = Wi * ((all : Int) : Rat) := ⟨_, rfl⟩
                rw [← hx] at hxs hsu'
                have HMU : Hid (∀ sd : Desc wi, Calls Try.prog 19 #[.agg #[.int .i64 Wi.num, .int .i64 (Wi.den : Int)], .agg #[.int .i64 all, .int .i64 1]] sd.val fun e w'' => e = .returned (.agg #[.int .i64 x.num, .int .i64 (x.den : Int)]) ∧ ∃ s' : Desc wi, w'' = s'.val) := Lib.hid fun sd => Calls.desc_of (by rw [hx]; exact (hall2 sd.val HWI.out.2.2.2.2 hba).1)
                have HWH : Hid (∀ (sd : Desc wi) (q : Int), Calls Try.prog 20 #[.int .i64 q] sd.val fun e w'' => e = .returned (.agg #[.int .i64 q, .int .i64 1]) ∧ ∃ s' : Desc wi, w'' = s'.val) := Lib.hid fun sd q => Calls.desc_of (l4whole_use q sd.val)
                have HLS : Hid (∀ sd : Desc wi, Calls Try.prog 22 #[.agg #[.int .i64 x.num, .int .i64 (x.den : Int)], .agg #[.int .i64 z, .int .i64 1]] sd.val fun e w'' => e = .returned (.bool false) ∧ ∃ s' : Desc wi, w'' = s'.val) := Lib.hid fun sd => Calls.desc_of (wless_use x z sd.val ⟨⟨hxs.1.1, by omega⟩, by omega⟩ (by omega) hsu')
                have d1 : ∀ sd : Desc wi, sd.val.cell? (aW.add (i * 2)) = some (.int .i64 Wi.num) := fun sd => sd.cell v1
                have d2 : ∀ sd : Desc wi, sd.val.cell? ⟨(aW.add (i * 2)).block, (aW.add (i * 2)).off + 1, none⟩ = some (.int .i64 (Wi.den : Int)) := fun sd => sd.cell v2
                have l5 : (i : Int) < (n : Int) := by omega
                have l6 : (0 : Int) ≤ (i : Int) := by omega
                clear hall2 v1 v2 hz hxs hsu hsu' heq hu0 hg0 hbt hx
                go_upto_region 28 with fail
                refine wp_region_desc (by kernel_rfl) (by kernel_rfl) ?_
                repeat (go_big_quiet_step (first | (go_at_call 20; exact HWH.out _ _) | (go_at_call 19; exact HMU.out _) | (go_at_call 22; exact HLS.out _)))
                refine wpQuiet_nil ?_
                rintro _ ⟨sd, rfl⟩
                have HBE := Lib.hid (HC10.out.2.trans ((HR3.out.trans (sd.below.mono HR3.out.size)).mono HC10.out.2.size))
                clear d1 d2
                go_wp2_with fail
                go_roundw
                case rel => exact ⟨i + 1, by omega, by go_num, HBE.out⟩
                case measure => simp [intOf]; omega
          · obtain rfl : n = i := by omega
            go_wp2_with fail
            refine (l4awake_any _).mono ?_
            rintro e w11 ⟨rfl, hb11⟩
            have HC11 := Lib.hid (HC9.out.next hb11)
            clear hb11
            go_wp2_with fail
            go_ret
            exact ⟨rfl, HC11.out.2⟩

/- A region that draws its order: first operations that read, in whatever order, then, waiting for all of them, a few in one forced order (a store ..). No program. -/

theorem wp_region_drew_tail {P : Program} {id : Nat} {Q : Exit → Act → World → Prop} {a : Act} {w : World} {l : List Oper} (n : Nat) (hm : P.follows .mixedOrders = true) (hB : Region.lexTailB .any l.toArray n = true)
    (h : wpQuiet P l.toArray (fun w' => ∃ n, w' = w.drewN n) (fun a' => ∀ w', (∃ n, w' = w.drewN n) → wpList P l.toArray Q (l.drop n) a' w') (l.take n) a) : (Code.region id l.toArray true).wp P Q a w := by
  simp only [Region.lexTailB, Bool.and_eq_true, decide_eq_true_eq] at hB
  obtain ⟨⟨⟨⟨hsel, hn⟩, hs⟩, hc⟩, hlex⟩ := hB
  have hn' : n < l.length := by simpa using hn
  have htl : (l.take n).length = n := by simp; omega
  have hdl : (l.drop n).length = l.toArray.size - n := by simp
  have inv0 : HeadInv .any l.toArray n (Array.replicate l.toArray.size false) :=
    ⟨by simp, fun j oj _ hl => (by rw [getD_replicate_false] at hl; cases hl), fun t _ ht => getD_in (by simpa using ht) (getD_replicate_false _ _)⟩
  have H := heads_lex (C := fun w' => ∃ n, w' = w.drewN n) (md := .any) (g := l.toArray.size - n) hsel hs hc hn (l.take n) 0 _ a (fun j hj => by
    rw [htl] at hj
    simp [hj]) (by simpa using htl) inv0 (by rw [htl]; exact hlex) h
  refine wp_region_any hm ?_
  have := any_of_heads (Q' := Q) (g := l.toArray.size - n) (fun listed a' w' hw' hL => by
    have := wpAny_of_seq (md := .any) (Q' := Q) (l.drop n) n listed a' w' (fun j => by simp [List.getElem?_drop]) (by rw [hdl]; exact hL.1) (hL.2 w' hw')
    rwa [hdl] at this) _ _ _ { w with drawn := w.drawn + 1 } ⟨1, rfl⟩ H
  rw [htl, show n + (l.toArray.size - n) = l.toArray.size from by omega] at this
  exact this

/- MarketAlike: the walk. -/

/-- Whether two goods are of the same use to the first buyers. -/
def sameTo (V : List (List Int)) (g x : Nat) : Nat → Bool
  | 0 => true
  | i + 1 => sameTo V g x i && decide (useN V i g = useN V i x)
theorem sameTo_all {V : List (List Int)} {g x : Nat} : ∀ {n : Nat}, sameTo V g x n = true → ∀ i, i < n → useN V i g = useN V i x
  | 0, _, i, hi => by omega
  | n + 1, h, i, hi => by
    simp only [sameTo, Bool.and_eq_true, decide_eq_true_eq] at h
    rcases Nat.lt_or_ge i n with h1 | h1
    · exact sameTo_all h.1 i h1
    · rw [show i = n by omega]; exact h.2
set_option maxRecDepth 100000 in
set_option maxHeartbeats 4000000 in
theorem law_malike (A : Option Addr) (n c : Nat) (U : Option Addr) (m d : Nat) (B : List Int) (V : List (List Int)) (bu go_ : Int) (W : World) (hK : MktArg W A n c U m d B V) (_ : -9223372036854775808 ≤ bu ∧ bu ≤ 9223372036854775807) (_ : -9223372036854775808 ≤ go_ ∧ go_ ≤ 9223372036854775807) :
    Calls Try.prog 5 #[mktV A n c U m d, .int .i64 bu, .int .i64 go_] W fun e w' => e = .returned (.bool true) ∧ Below W.heap.size W w' := by
  have hC1 := Ch.start W A n c U m d
  obtain ⟨w1, hw1⟩ : ∃ w1, w1 = W.alloc (.cells #[.slice A n c, .slice U m d] 25) := ⟨_, rfl⟩
  rw [← hw1] at hC1
  have HK := Lib.hid hK
  have HC1 := Lib.hid hC1
  obtain ⟨m1, m2, _, _⟩ := hC1.1.at2
  clear hK hC1
  unfold mktV
  go_enter Try.func5, Try.ntmps5
  go_wp2_with fail
  rw [← hw1]
  clear hw1
  refine ((HK.out.below HC1.out.2).of).mono ?_
  rintro e w2 ⟨A2, n2, c2, U2, q2, d2, b2, vs2, rfl, hO2⟩
  have HC2 := Lib.hid (HC1.out.next hO2.below)
  have HO2 := Lib.hid hO2
  clear hO2 m1 m2
  go_wp2_with fail
  refine (of_prices HO2.out).mono ?_
  intro ev w3 hpost
  unfold PricesPost at hpost
  obtain ⟨hb3, hpost⟩ := hpost
  have HC3 := Lib.hid (HC2.out.next hb3)
  clear hb3
  obtain ⟨m1, m2, _, _⟩ := HC3.out.1.at2
  cases hp : prF B V with
  | none =>
    rw [hp] at hpost
    subst hpost
    clear hp
    go_wp2_with fail
    refine (l4awake_any _).mono ?_
    rintro e w6 ⟨rfl, hb6⟩
    have HC6 := Lib.hid (HC3.out.next hb6)
    clear hb6
    go_wp2_with fail
    go_ret
    exact ⟨rfl, HC6.out.2⟩
  | some r =>
    rw [hp] at hpost
    obtain ⟨PA, pc, rfl, hown3⟩ := hpost
    have hpr := prF_ok hp
    have hpl := hpr.2.lp
    have hg3 := (validM_iff.1 hpr.1).2.1
    have hn3 := (validM_iff.1 hpr.1).1
    have hbud := hn3.2.2
    have hnB := HK.out.mkt.hB
    have hsame := of_same (.inr hpr.1)
    obtain ⟨k, hk⟩ : ∃ k, k = goodsN V := ⟨_, rfl⟩
    rw [← hk] at hg3 hpl
    have hfr3 := Fracs.of_cells (At.of_own hown3)
    have HP := Lib.hid (And.intro hp (And.intro hpr (And.intro hpl (And.intro hk (And.intro hn3 hsame)))))
    have HF3 := Lib.hid hfr3
    have HV := Lib.hid (HK.out.below HC3.out.2).valid
    rw [hpr.1] at HV
    rw [hpl]
    have hn13 : 1 ≤ n ∧ n ≤ 3 := by omega
    clear hp hpr hpl hk hown3 hfr3 hn3 hsame hbud
    go_wp2_with fail
    refine HV.out.mono ?_
    rintro e w4 ⟨rfl, hb4⟩
    have HC4 := Lib.hid (And.intro (HC3.out.next hb4) (HF3.out.below hb4))
    clear hb4 m1 m2 HV
    obtain ⟨m1, m2, _, _⟩ := HC4.out.1.1.at2
    have hn0 : ¬ n = 0 := by omega
    obtain rfl : n = m := by have := HK.out.mkt.hV; have := HP.out.2.2.2.2.1.2.2.2; omega
    have hVn : V.length = n := HK.out.mkt.hV
    obtain ⟨aU, hUA, _, hcU⟩ := (HK.out.mkt.uses.below HC4.out.1.2).some_ (by omega)
    subst hUA
    obtain ⟨A0, c0, h01, h02, h03, _⟩ := hcU 0 _ (rowV_some (by omega))
    have hrl0 : (rowV V 0).length = k := HP.out.2.2.2.1.symm
    have ea : aU.add 0 = aU := by simp [Addr.add]
    rw [ea, hrl0] at h01
    have hrow : ∀ i, i < n → (rowV V i).length = k := fun i hi => by rw [HP.out.2.2.2.1]; exact (mkOk_of HP.out.2.1.1).2.1 i (by omega)
    have hub : ∀ i g, 0 ≤ useN V i g ∧ useN V i g ≤ 20 := fun i g => (mkOk_of HP.out.2.1.1).2.2 i g
    have HU := Lib.hid (And.intro hrow (And.intro hub hVn))
    clear hcU h02 h03 hrl0 ea hrow hub
    go_upto_region 4 with fail
    go_cut [9, 10] (fun a b wx => a = .int .i64 n ∧ b = .int .i64 k ∧ Below w4.heap.size w4 wx)
    case first =>
      go_quiet (fail)
      go_wp2_with fail
      go_meet
      case rel => exact ⟨rfl, rfl, below_drewN (Below.refl _ _) _⟩
    obtain ⟨w5, rfl⟩ : ∃ w : World, w = wc := ⟨_, rfl⟩
    obtain ⟨rfl, rfl, hb5⟩ := hcut
    have HC5 := Lib.hid (And.intro (HC4.out.1.next hb5) (HC4.out.2.below hb5))
    clear hb5 m1 m2 h01
    -- what the walk reads of the uses
    have hrd : ∀ (wx : World), Below W.heap.size W wx → ∀ i, i < n → ∃ aR cR, wx.cell? (aU.add i) = some (.slice (some aR) k cR) ∧ ∀ g, g < k → wx.cell? (aR.add g) = some (.int .i64 (useN V i g)) := fun wx hb i hi => by
      obtain ⟨aU', hUA, _, hcU⟩ := (HK.out.mkt.uses.below hb).some_ (by omega)
      injection hUA with hUA
      subst hUA
      obtain ⟨aR0, cR, hcR, _, _, hIR⟩ := hcU i _ (rowV_some (by omega))
      rw [HU.out.1 i hi] at hcR
      obtain ⟨aR, rfl, _, hcI⟩ := hIR.some_ (by rw [HU.out.1 i hi]; omega)
      refine ⟨aR, cR, hcR, fun g hg => hcI g _ ?_⟩
      unfold useN
      rw [List.getD_eq_getElem?_getD, List.getElem?_eq_getElem (by rw [HU.out.1 i hi]; exact hg)]; rfl
    have HRD := Lib.hid hrd
    clear hrd
    go_wp2_with fail
    go_loopw [52] (fun gv wx => ∃ g : Nat, g ≤ k ∧ gv = .int .i64 g ∧ Below w5.heap.size w5 wx) (fun gv _ => k - (intOf gv).toNat)
    case atStart => exact ⟨0, Nat.zero_le _, rfl, Below.refl _ _⟩
    case round =>
      obtain ⟨g, hg, rfl, hbl⟩ := hrel
      obtain ⟨wg, rfl⟩ : ∃ w : World, w = wr := ⟨_, rfl⟩
      have HG := Lib.hid hbl
      clear hbl
      by_cases hgk : g < k
      · have l1 : (g : Int) < (k : Int) := by omega
        have l2 : (0 : Int) ≤ (g : Int) := by omega
        go_wp2_with fail
        go_loopw [56] (fun hv wx => ∃ x : Nat, x ≤ g ∧ hv = .int .i64 x ∧ Below wg.heap.size wg wx) (fun hv _ => g - (intOf hv).toNat)
        case atStart => exact ⟨0, Nat.zero_le _, rfl, Below.refl _ _⟩
        case round =>
          obtain ⟨x, hx, rfl, hbl⟩ := hrel
          obtain ⟨wh, rfl⟩ : ∃ w : World, w = wr := ⟨_, rfl⟩
          have HX := Lib.hid hbl
          clear hbl
          by_cases hxg : x < g
          · have l3 : (x : Int) < (g : Int) := by omega
            have l4 : (0 : Int) ≤ (x : Int) := by omega
            have l4b : (x : Int) < (k : Int) := by omega
            go_wp2_with fail
            go_loopw [60, 13] (fun iv av wx => ∃ i : Nat, i ≤ n ∧ iv = .int .i64 i ∧ av = .bool (sameTo V g x i) ∧ Below wh.heap.size wh wx) (fun iv _ _ => n - (intOf iv).toNat)
            case atStart => exact ⟨0, Nat.zero_le _, rfl, rfl, Below.refl _ _⟩
            case round =>
              obtain ⟨i, hi, rfl, rfl, hbl⟩ := hrel
              obtain ⟨wi, rfl⟩ : ∃ w : World, w = wr := ⟨_, rfl⟩
              have HI := Lib.hid (And.intro hbl (HG.out.trans ((HX.out.trans (hbl.mono HX.out.size)).mono HG.out.size)))
              clear hbl
              by_cases hin : i < n
              · have hch := HC5.out.1.next HI.out.2
                obtain ⟨m1, m2, _, _⟩ := hch.1.at2
                obtain ⟨aR, cR, r1, r2⟩ := HRD.out wi hch.2 i hin
                have r3 := r2 g hgk
                have r4 := r2 x (by omega)
                have hnx : sameTo V g x (i + 1) = (sameTo V g x i && decide (useN V i g = useN V i x)) := rfl
                have HN := Lib.hid hnx
                have l5 : (i : Int) < (n : Int) := by omega
                have l6 : (0 : Int) ≤ (i : Int) := by omega
                clear hch r2 hnx
                go_upto_region 17 with fail
                cases hs : sameTo V g x i with
                | false =>
                  rw [hs] at HN
                  clear hs
                  go_quiet (fail)
                  go_wp2_with fail
                  go_roundw
                  case rel => exact ⟨i + 1, by omega, by go_num, by rw [HN.out]; rfl, below_drewN HI.out.1 _⟩
                  case measure => simp [intOf]; omega
                | true =>
                  rw [hs] at HN
                  clear hs
                  generalize useN V i g = u1 at *
                  generalize useN V i x = u2 at *
                  go_quiet (fail)
                  go_wp2_with fail
                  go_roundw
                  case rel => exact ⟨i + 1, by omega, by go_num, by rw [HN.out]; rfl, below_drewN HI.out.1 _⟩
                  case measure => simp [intOf]; omega
              · obtain rfl : n = i := by omega
                have hal := fun (h : sameTo V g x n = true) => alike_eq HP.out.1 (by rw [← HP.out.2.2.2.1]; exact hgk) (by rw [← HP.out.2.2.2.1]; omega) (fun i hi => sameTo_all h i (by omega))
                have hFr := HC5.out.2.below HI.out.2
                obtain ⟨aP, hPA, _, hcP⟩ := hFr.some_ (by rw [HP.out.2.2.1]; omega)
                subst hPA
                have hgp : ∀ j, j < k → r.1[j]? = some (priQ r.1 j) := fun j hj => by
                  unfold priQ
                  rw [List.getD_eq_getElem?_getD, List.getElem?_eq_getElem (by rw [HP.out.2.2.1]; exact hj)]; rfl
                obtain ⟨v1, v2⟩ := hcP g _ (hgp g hgk)
                obtain ⟨v3, v4⟩ := hcP x _ (hgp x (by omega))
                have HAL := Lib.hid hal
                clear hal hFr hcP hgp
                go_upto_region 19 with fail
                cases hs : sameTo V g x n with
                | false =>
                  clear hs
                  go_quiet (fail)
                  go_wp2_with fail
                  go_roundw
                  case rel => exact ⟨x + 1, by omega, by go_num, HX.out.trans ((below_drewN HI.out.1 _).mono HX.out.size)⟩
                  case measure => simp [intOf]; omega
                | true =>
                  rw [HAL.out hs] at v1 v2
                  clear hs
                  generalize priQ r.1 x = q at *
                  go_quiet (fail)
                  go_wp2_with fail
                  go_roundw
                  case rel => exact ⟨x + 1, by omega, by go_num, HX.out.trans ((below_drewN HI.out.1 _).mono HX.out.size)⟩
                  case measure => simp [intOf]; omega
          · obtain rfl : g = x := by omega
            go_wp2_with fail
            go_roundw
            case rel => exact ⟨g + 1, by omega, by go_num, HG.out.trans (HX.out.mono HG.out.size)⟩
            case measure => simp [intOf]; omega
      · obtain rfl : k = g := by omega
        obtain ⟨bs, hcn, hce⟩ := idxM_of bu (k := (n : Int)) (by omega) (by omega)
        obtain ⟨d', hdn, hde⟩ := idxM_of go_ (k := (k : Int)) (by omega) (by omega)
        have HC6 := Lib.hid (And.intro (HC5.out.1.next HG.out) (HC5.out.2.below HG.out))
        have hk0 : ¬ k = 0 := by omega
        go_upto_region 23 with fail
        go_cut [1, 2] (fun a b wx => a = .int .i64 bs ∧ b = .int .i64 d' ∧ Below wg.heap.size wg wx)
        case first =>
          go_quiet (fail)
          rw [hce, hde]
          go_wp2_with fail
          go_meet
          case rel => exact ⟨rfl, rfl, below_drewN (Below.refl _ _) _⟩
        obtain ⟨w6, rfl⟩ : ∃ w : World, w = wc := ⟨_, rfl⟩
        obtain ⟨rfl, rfl, hb6⟩ := hcut
        have HC7 := Lib.hid (And.intro (HC6.out.1.next hb6) (HC6.out.2.below hb6))
        have hcn : bs < n := by omega
        have hdn' : d' < k := by omega
        clear hb6 hce hde hdn
        have hm1 := make_ints n (by omega)
        have hm2 := make_intss4 n (by omega)
        go_upto_region 24 with fail
        go_cut [15] (fun xv wx => ∃ gx gB gU, xv = .pointer (some ⟨gx, 0, none⟩) ∧ AlM w6 wx gx gB gU n k bs d' 0 0 B V)
        case first =>
          go_region
          all_goals
            go_wp2_with fail
            go_meet
            case rel =>
              refine' ⟨_, _, _, rfl, { box := ?ba, bud := ?pr, use := ⟨_, ?sb, ?sz, fun i hi => by omega⟩, low := ?lo, below := below3 _ _ _ _ }⟩
              case ba => first | exact blk0 _ _ _ _ _ | exact blk1 _ _ _ _ _ | exact blk2 _ _ _ _ _
              case pr => first | exact blk0 _ _ _ _ _ | exact blk1 _ _ _ _ _ | exact blk2 _ _ _ _ _
              case sb => first | exact blk0 _ (Array.replicate n (Value.slice none 0 0)) _ _ _ | exact blk1 _ (Array.replicate n (Value.slice none 0 0)) _ _ _ | exact blk2 _ (Array.replicate n (Value.slice none 0 0)) _ _ _
              case sz => simp
              case lo => omega
        obtain ⟨w7, rfl⟩ : ∃ w : World, w = wc := ⟨_, rfl⟩
        obtain ⟨gx, gB, gU, rfl, hA7⟩ := hcut
        have HA7 := Lib.hid hA7
        have hlow := hA7.low
        obtain ⟨ng1, ng2, ng3⟩ := hA7.ne
        have hw6s := HC7.out.1.2.size
        have hxl7 := hA7.box.lt
        have hW7 := HC7.out.1.1.lt
        clear hA7 hm1 hm2
        go_wp2_with fail
        go_loopw [116] (fun iv wx => ∃ i : Nat, i ≤ n ∧ iv = .int .i64 i ∧ AlM w6 wx gx gB gU n k bs d' i i B V) (fun iv _ => n - (intOf iv).toNat)
        case atStart => exact ⟨0, Nat.zero_le _, rfl, HA7.out⟩
        case round =>
          obtain ⟨i, hi, rfl, hA⟩ := hrel
          obtain ⟨wo, rfl⟩ : ∃ w : World, w = wr := ⟨_, rfl⟩
          have HA := Lib.hid hA
          clear hA
          by_cases hin : i < n
          · have hW : Below W.heap.size W wo := HC7.out.1.2.trans (HA.out.below.mono HC7.out.1.2.size)
            obtain ⟨m1, m2, _, _⟩ := (HC7.out.1.next HA.out.below).1.at2
            obtain ⟨x1, x2, _, _⟩ := HA.out.box.at2
            obtain ⟨tn, hto⟩ : ∃ tn, tn = (i + bs) % n := ⟨_, rfl⟩
            have htl : tn < n := by rw [hto]; exact Nat.mod_lt _ (by omega)
            have w2' : ((i : Int) + (bs : Int)) % (n : Int) = (tn : Int) := by rw [hto, Int.natCast_emod, Int.natCast_add]
            obtain ⟨aB, hAB, _, hcB⟩ := (HK.out.mkt.budgets.below hW).some_ (by omega)
            subst hAB
            have hxi : B[i]? = some (B.getD i 0) := by
              rw [List.getD_eq_getElem?_getD, List.getElem?_eq_getElem (by omega)]; rfl
            have c1 := hcB i _ hxi
            have c2 : wo.cell? ⟨gB, tn, none⟩ = some (.int .i64 (if back n bs tn < i then B.getD (back n bs tn) 0 else 0)) := by
              rw [HA.out.bud.cell, arr_get, rotTo_get hcn htl i (by omega)]; rfl
            have c3 := HA.out.bud.frozen tn
            have hbu := HA.out.budget
            rw [← hto] at hbu
            have HB := Lib.hid (And.intro hbu hto)
            have l1 : (i : Int) < (n : Int) := by omega
            have l2 : (0 : Int) ≤ (i : Int) := by omega
            have l3 : (tn : Int) < (n : Int) := by omega
            have l4 : (0 : Int) ≤ (tn : Int) := by omega
            clear hcB hxi hbu hto
            obtain ⟨b, hb⟩ : ∃ b, b = B.getD i 0 := ⟨_, rfl⟩
            rw [← hb] at c1 HB
            clear hb
            go_upto_region 29 with fail
            go_cut [17] (fun tv wx => tv = .int .i64 tn ∧ AlM w6 wx gx gB gU n k bs d' (i + 1) i B V)
            case first =>
              refine wp_region_drew_tail 9 (by kernel_rfl) (by kernel_rfl) ?_
              simp only [List.take_succ_cons, List.take_zero, List.drop_succ_cons, List.drop_zero]
              repeat (go_big_quiet_step (fail))
              refine wpQuiet_nil ?_
              rintro _ ⟨nq, rfl⟩
              go_wp2_with fail
              go_meet
              case rel => exact ⟨by rw [w2'], HB.out.1.drewN nq⟩
            obtain ⟨w8, rfl⟩ : ∃ w : World, w = wc := ⟨_, rfl⟩
            obtain ⟨rfl, hA8⟩ := hcut
            have HA8 := Lib.hid hA8
            obtain ⟨cs, hcs, hcsz, _⟩ := hA8.use
            have hul := hcs.lt
            obtain ⟨u0, hu0⟩ : ∃ u, cs[tn]? = some u := ⟨_, Array.getElem?_eq_getElem (by omega)⟩
            clear m1 m2 x1 x2 c1 c2 c3 hW
            obtain ⟨x1, x2, _, _⟩ := hA8.box.at2
            have c2 : w8.cell? ⟨gU, tn, none⟩ = some u0 := (hcs.cell tn).trans hu0
            have c3 := hcs.frozen tn
            have hmk := make_ints k (by omega)
            have hxl := hA8.box.lt
            clear hA8 hcs hcsz hu0
            obtain ⟨w9, hw9⟩ : ∃ w9, w9 = (w8.setCell ⟨gU, tn, none⟩ (.slice (some ⟨w8.heap.size, 0, none⟩) k k)).alloc (.cells (arr (List.replicate k 0)) 3) := ⟨_, rfl⟩
            go_upto_region 30 with fail
            go_cut [17] (fun tv wx => tv = .int .i64 tn ∧ Below (w8.heap.size + 1) w9 wx)
            case first =>
              go_region
              all_goals
                go_wp2_with fail
                go_meet
                case rel => exact ⟨rfl, by rw [hw9]; exact (Below.refl _ _).drew⟩
            obtain ⟨wq, rfl⟩ : ∃ w : World, w = wc := ⟨_, rfl⟩
            obtain ⟨rfl, hbq⟩ := hcut
            have hs9 : w9.heap.size = w8.heap.size + 1 := by rw [hw9]; simp
            have hnew : Blk wq w8.heap.size 3 (arr (rotTo k d' (rowV V i) 0 0)) := by
              have h1 : Blk w9 w8.heap.size 3 (arr (List.replicate k 0)) := by rw [hw9]; exact Blk.new _ _ _ (by simp)
              exact h1.below hbq (by omega)
            have HQ := Lib.hid (And.intro hnew (And.intro hbq (And.intro hw9 (HB.out.2))))
            clear x1 x2 c2 c3 hmk hbq hw9 hnew
            go_wp2_with fail
            go_loopw [140] (fun gv wx => ∃ g : Nat, g ≤ k ∧ gv = .int .i64 g ∧ Blk wx w8.heap.size 3 (arr (rotTo k d' (rowV V i) 0 g)) ∧ Kept (w8.heap.size + 1) [w8.heap.size] w9 wx) (fun gv _ => k - (intOf gv).toNat)
            case atStart => exact ⟨0, Nat.zero_le _, rfl, HQ.out.1, Kept.of_below HQ.out.2.1 _⟩
            case round =>
              obtain ⟨g, hg, rfl, hRg, hkg⟩ := hrel
              obtain ⟨wi, rfl⟩ : ∃ w : World, w = wr := ⟨_, rfl⟩
              by_cases hgk : g < k
              · have hbox : Blk w9 gx 30 #[.slice (some ⟨gB, 0, none⟩) n n, .slice (some ⟨gU, 0, none⟩) n n] := by
                  rw [HQ.out.2.2.1]
                  exact (HA8.out.box.far (p := ⟨gU, tn, none⟩) ng2 _).alloc _
                obtain ⟨x1, x2, _, _⟩ := (hbox.kept hkg (by omega) (by simp; omega)).at2
                obtain ⟨cs, hcs, hcsz, _⟩ := HA8.out.use
                have hU9 : Blk w9 gU 22 (cs.setIfInBounds tn (.slice (some ⟨w8.heap.size, 0, none⟩) k k)) := by
                  rw [HQ.out.2.2.1]
                  exact (hcs.set_ tn _).alloc _
                have c2 : wi.cell? ⟨gU, tn, none⟩ = some (.slice (some ⟨w8.heap.size, 0, none⟩) k k) := by
                  rw [(hU9.kept hkg (by omega) (by simp; omega)).cell, Array.getElem?_setIfInBounds_self_of_lt (by omega)]
                have hb89 : Below W.heap.size W w9 := by
                  have h1 : Below W.heap.size W w8 := HC7.out.1.2.trans (HA8.out.below.mono HC7.out.1.2.size)
                  rw [HQ.out.2.2.1]
                  exact (h1.setCell (p := ⟨gU, tn, none⟩) (by show W.heap.size ≤ gU; omega) _).alloc (by have := h1.size; simpa [World.setCell] using this) _
                have hWi : Below W.heap.size W wi := hb89.trans (hkg.mono (B' := W.heap.size) (S' := []) (by have := hb89.size; omega) (fun x hx => by simp at hx; right; have := hb89.size; omega)).below
                have hbo := ((HC7.out.1.next HA8.out.below).1.far (p := ⟨gU, tn, none⟩) (by show W.heap.size ≠ gU; omega) (.slice (some ⟨w8.heap.size, 0, none⟩) k k)).alloc (.cells (arr (List.replicate k 0)) 3)
                rw [← HQ.out.2.2.1] at hbo
                obtain ⟨m1, m2, _, _⟩ := (hbo.kept hkg (by omega) (by simp; omega)).at2
                obtain ⟨aR, cR, r1, r2⟩ := HRD.out wi hWi i hin
                have r3 := r2 g hgk
                obtain ⟨x0, hx0⟩ : ∃ x0, x0 = (g + d') % k := ⟨_, rfl⟩
                have hxk : x0 < k := by rw [hx0]; exact Nat.mod_lt _ (by omega)
                have w3' : ((g : Int) + (d' : Int)) % (k : Int) = (x0 : Int) := by rw [hx0, Int.natCast_emod, Int.natCast_add]
                have c4 : wi.cell? ⟨w8.heap.size, x0, none⟩ = some (.int .i64 (if back k d' x0 < g then (rowV V i).getD (back k d' x0) 0 else 0)) := by
                  rw [hRg.cell, arr_get, rotTo_get hdn' hxk g (by omega)]; rfl
                have c5 := hRg.frozen x0
                have hset := hRg.set_ x0 (.int .i64 (useN V i g))
                rw [arr_set, hx0] at hset
                have HS := Lib.hid (And.intro (show Blk _ _ _ (arr (rotTo k d' (rowV V i) 0 (g + 1))) from hset) (And.intro hx0 hkg))
                have l5 : (g : Int) < (k : Int) := by omega
                have l6 : (0 : Int) ≤ (g : Int) := by omega
                have l7 : (x0 : Int) < (k : Int) := by omega
                have l8 : (0 : Int) ≤ (x0 : Int) := by omega
                clear hbox hcs hcsz hU9 hb89 hWi hbo r2 hset hRg hkg
                rw [← hx0] at HS
                clear hx0
                generalize useN V i g = u at *
                go_upto_region 34 with fail
                refine wp_region_drew_tail 19 (by kernel_rfl) (by kernel_rfl) ?_
                simp only [List.take_succ_cons, List.take_zero, List.drop_succ_cons, List.drop_zero]
                repeat (go_big_quiet_step (fail))
                refine wpQuiet_nil ?_
                rintro _ ⟨nq, rfl⟩
                go_wp2_with fail
                go_roundw
                case rel => exact ⟨g + 1, by omega, by go_num, HS.out.1.drewN nq, (HS.out.2.2.setCell (p := ⟨w8.heap.size, x0, none⟩) (.inl (by simp)) _).drewN nq⟩
                case measure => simp [intOf]; omega
              · obtain rfl : k = g := by omega
                rw [rotTo_all hdn'] at hRg
                have hrow := HA8.out.row (k := k) (w' := wi) hcn hin (by
                  rw [← HQ.out.2.2.2, ← HQ.out.2.2.1]
                  exact hkg) hRg
                have HROW := Lib.hid hrow
                clear hrow hRg hkg
                go_wp2_with fail
                go_roundw
                case rel => exact ⟨i + 1, by omega, by go_num, HROW.out⟩
                case measure => simp [intOf]; omega
          · obtain rfl : n = i := by omega
            have hM := HA.out.mkt hcn (by omega)
            have hv := rot_valid (c := bs) (d := d') HP.out.2.1.1 (by omega) (by rw [← HP.out.2.2.2.1]; exact hdn')
            rw [hnB, ← HP.out.2.2.2.1] at hv
            obtain ⟨r', hr'⟩ := found_any _ _ hv
            have hpr' : prF (rotL n bs B 0) (rotV n bs k d' V) = some r' := by unfold prF; rw [if_pos hv]; exact hr'
            have hrp := rot_prices (c := bs) (d := d') HP.out.1 (by omega) (by rw [← HP.out.2.2.2.1]; exact hdn') (by rw [hnB, ← HP.out.2.2.2.1]; exact hpr')
            rw [HP.out.2.2.1, ← HP.out.2.2.2.1] at hrp
            have hps' := (prF_ok hpr').2.ps
            have HPO := Lib.hid (mprices_any (some ⟨gB, 0, none⟩) n n (some ⟨gU, 0, none⟩) n n (rotL n bs B 0) (rotV n bs k d' V) wo hM (by omega) (by omega) (fun r hr => by
              obtain ⟨j, _, rfl⟩ := List.mem_map.1 hr
              rw [rotL_length]; omega) (found_any _ _))
            have HRP := Lib.hid (And.intro hpr' hrp)
            obtain ⟨x1, x2, _, _⟩ := HA.out.box.at2
            clear hM hv hr' hpr' hrp hps'
            go_wp2_with fail
            refine HPO.out.mono ?_
            intro ev w8 hpost
            unfold PricesPost at hpost
            rw [HRP.out.1] at hpost
            obtain ⟨hb8, QA, qc, rfl, hown8⟩ := hpost
            rw [HRP.out.2.1] at hown8 ⊢
            have hfr8 := Fracs.of_cells (At.of_own hown8)
            have hb68 := HA.out.below.trans (hb8.mono HA.out.below.size)
            have HC8 := Lib.hid (And.intro (HC7.out.1.next hb68) (And.intro (HC7.out.2.below hb68) hfr8))
            clear hb8 hown8 hfr8 hb68 HPO x1 x2
            go_wp2_with fail
            go_loopw [178] (fun jv wx => ∃ j : Nat, j ≤ k ∧ jv = .int .i64 j ∧ Below w8.heap.size w8 wx) (fun jv _ => k - (intOf jv).toNat)
            case atStart => exact ⟨0, Nat.zero_le _, rfl, Below.refl _ _⟩
            case round =>
              obtain ⟨j, hj, rfl, hbl⟩ := hrel
              obtain ⟨wz, rfl⟩ : ∃ w : World, w = wr := ⟨_, rfl⟩
              by_cases hjk : j < k
              · have hgp : r.1[j]? = some (priQ r.1 j) := by
                  unfold priQ
                  rw [List.getD_eq_getElem?_getD, List.getElem?_eq_getElem (by rw [HP.out.2.2.1]; exact hjk)]; rfl
                obtain ⟨x0, hx0⟩ : ∃ x0, x0 = (j + d') % k := ⟨_, rfl⟩
                have hxk : x0 < k := by rw [hx0]; exact Nat.mod_lt _ (by omega)
                have w3' : ((j : Int) + (d' : Int)) % (k : Int) = (x0 : Int) := by rw [hx0, Int.natCast_emod, Int.natCast_add]
                have hgq : r'.1[x0]? = some (priQ r.1 j) := by
                  have h1 := HRP.out.2.2 j hjk
                  rw [← hx0] at h1
                  rw [← h1]
                  unfold priQ
                  rw [List.getD_eq_getElem?_getD, List.getElem?_eq_getElem (by rw [HRP.out.2.1]; exact hxk)]; rfl
                obtain ⟨aP, hPA, _, hcP⟩ := (HC8.out.2.1.below hbl).some_ (by rw [HP.out.2.2.1]; omega)
                obtain ⟨aQ, hQA, _, hcQ⟩ := (HC8.out.2.2.below hbl).some_ (by rw [HRP.out.2.1]; omega)
                subst hPA; subst hQA
                obtain ⟨v1, v2⟩ := hcP j _ hgp
                obtain ⟨v3, v4⟩ := hcQ x0 _ hgq
                have HB9 := Lib.hid hbl
                have l5 : (j : Int) < (k : Int) := by omega
                have l6 : (0 : Int) ≤ (j : Int) := by omega
                have l7 : (x0 : Int) < (k : Int) := by omega
                have l8 : (0 : Int) ≤ (x0 : Int) := by omega
                clear hgp hx0 hgq hcP hcQ hbl
                generalize priQ r.1 j = q at *
                go_upto_region 43 with fail
                go_quiet (fail)
                go_wp2_with fail
                go_roundw
                case rel => exact ⟨j + 1, by omega, by go_num, below_drewN HB9.out _⟩
                case measure => simp [intOf]; omega
              · have HCZ := Lib.hid (HC8.out.1.next hbl)
                clear hbl
                go_wp2_with fail
                refine (l4awake_any _).mono ?_
                rintro e w10 ⟨rfl, hb10⟩
                have HC10 := Lib.hid (HCZ.out.next hb10)
                clear hb10
                go_wp2_with fail
                go_ret
                exact ⟨rfl, HC10.out.2⟩
end Go.Proofs.Ytnljnjnmhbkdoaa
