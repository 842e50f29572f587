/- Laws and contracts that the proof of MarketMore uses, part 7. -/
import Derived.Test.YtnljnjnmhbkdoaaBaseM6
namespace Go.Proofs.Ytnljnjnmhbkdoaa
open Go.RowKit

/- An int among a statement's arguments, opened. -/
open Go.ChangeShapes Go.WideShapes Go.ChangeAt Go.RowKit

section
variable {H : Type} {enc : TypeId × Value → H}
set_option maxRecDepth 100000 in
theorem open_intI {W : World} {v : Value} {d : DataW H} {p : List MemPlace} {spare : Nat → Bool} {b b0 : Nat} {r : Reach} (h : DataW.Trod enc Try.prog W b spare true 3 v d p) (hv : Value.okWide Try.prog W r b0 3 v) :
    ∃ i : Int, v = .int .i64 i ∧ -9223372036854775808 ≤ i ∧ i ≤ 9223372036854775807 := by
  obtain ⟨n, h1, _, _, h2⟩ := open_int Try.underlying3 hv h
  refine ⟨n, h1, ?_⟩
  simp [Lit.wf, IntKind.min, IntKind.max, IntKind.signed, IntKind.bits] at h2
  omega
end

/- A number of a buyer turned in what Of has made. -/

theorem idxM_of (x : Int) {k : Int} (hk : 1 ≤ k) (hk2 : k ≤ 1000) : ∃ p : Nat, (p : Int) < k ∧ wrap64 ((IntKind.u64.wrap x).tmod k) = (p : Int) := by
  have h0 : 0 ≤ IntKind.u64.wrap x := by
    show 0 ≤ x % 2 ^ 64
    exact Int.emod_nonneg _ (by decide)
  have h1 := Int.tmod_nonneg k h0
  have h2 := Int.tmod_lt_of_pos (IntKind.u64.wrap x) (show (0 : Int) < k by omega)
  generalize (IntKind.u64.wrap x).tmod k = r at *
  refine ⟨r.toNat, by omega, ?_⟩
  unfold wrap64
  go_num
theorem byM_of (x : Int) {k : Int} (hk : 1 ≤ k) (hk2 : k ≤ 1000) : ∃ c : Int, (1 ≤ c ∧ c ≤ k) ∧ wrap64 (1 + wrap64 ((IntKind.u64.wrap x).tmod k)) = c := by
  obtain ⟨p, hp, e⟩ := idxM_of x hk hk2
  rw [e]
  clear e
  have hr : 1 ≤ 1 + (p : Int) ∧ 1 + (p : Int) ≤ k := by omega
  generalize 1 + (p : Int) = r at *
  refine ⟨r, hr, ?_⟩
  unfold wrap64
  go_num
/-- The block of a row of numbers. -/
def RwB (w : World) (g m cp : Nat) (xs : List Int) : Prop := ∃ cur, Blk w g 3 cur ∧ cur.size = cp ∧ cur.toList.take m = xs.map (Value.int .i64)
theorem RwB.lt {w : World} {g m cp : Nat} {xs : List Int} (h : RwB w g m cp xs) : g < w.heap.size := by obtain ⟨cur, h, _⟩ := h; exact h.lt
theorem RwB.below {w w' : World} {g m cp : Nat} {xs : List Int} (h : RwB w g m cp xs) (hb : Below w.heap.size w w') : RwB w' g m cp xs := by
  obtain ⟨cur, hB, h1, h2⟩ := h
  exact ⟨cur, hB.below hb hB.lt, h1, h2⟩
theorem RwB.ints {w : World} {g m cp : Nat} {xs : List Int} (h : RwB w g m cp xs) : Ints w (some ⟨g, 0, none⟩) xs := by
  obtain ⟨cur, hB, _, ht⟩ := h
  intro i v hv
  rw [← ht] at hv
  have hv' : cur.toList[i]? = some v := by
    rw [List.getElem?_take] at hv
    split at hv
    · exact hv
    · cases hv
  exact hB.at_ i v hv'
theorem RwB.read {w : World} {g m cp : Nat} {xs : List Int} (h : RwB w g m cp xs) {k : Nat} {x : Int} (hx : xs[k]? = some x) : w.cell? ⟨g, k, none⟩ = some (.int .i64 x) := by
  obtain ⟨cur, hB, _, ht⟩ := h
  have hv : (cur.toList.take m)[k]? = some (.int .i64 x) := by rw [ht]; simp [hx]
  rw [List.getElem?_take] at hv
  split at hv
  · rw [hB.cell, ← Array.getElem?_toList]; exact hv
  · cases hv
theorem RwB.frozen {w : World} {g m cp : Nat} {xs : List Int} (h : RwB w g m cp xs) (k : Nat) : w.frozen? ⟨g, k, none⟩ = false := by obtain ⟨cur, hB, _⟩ := h; exact hB.frozen k
theorem RwB.set_ {w : World} {g m cp : Nat} {xs : List Int} (h : RwB w g m cp xs) (k : Nat) (y : Int) : RwB (w.setCell ⟨g, k, none⟩ (.int .i64 y)) g m cp (xs.set k y) := by
  obtain ⟨cur, hB, hs, ht⟩ := h
  refine ⟨_, hB.set_ k _, by simp [hs], ?_⟩
  rw [Array.toList_setIfInBounds, List.take_set, ht, List.map_set]
theorem rwB_own {w : World} {base n c : Nat} {A : Option Addr} {xs : List Int} (h : w.ownsRow base 3 1 (.slice A n c) n (xs.map (Value.int .i64))) (hn : 0 < n) (hl : xs.length = n) : ∃ g, A = some ⟨g, 0, none⟩ ∧ base ≤ g ∧ RwB w g n c xs := by
  rcases h.2 with ⟨h0, h1⟩ | ⟨g, cap', cur, hv, hb, hg, _, _, hsz, ht⟩
  · injection h0 with _ e2 _
    omega
  · injection hv with e1 _ e3
    subst e1; subst e3
    exact ⟨g, rfl, hb, cur, hg, by simpa using hsz, by simpa [hl] using ht⟩
theorem OfMem.rowB {w w2 : World} {A U : Option Addr} {n c q d b5 : Nat} {vs : List Value} {B : List Int} {V : List (List Int)} (h : OfMem w w2 A n c U q d b5 vs B V) (hB : B.take 6 = B) (hn : 0 < n) :
    ∃ g, A = some ⟨g, 0, none⟩ ∧ w.heap.size ≤ g ∧ g < b5 ∧ RwB w2 g n c B := by
  have h1 := h.bud
  have h2 := h.ln
  rw [hB] at h1 h2
  obtain ⟨g, rfl, hg, hR⟩ := rwB_own h1 hn h2.symm
  exact ⟨g, rfl, hg, h.blt _ rfl, hR⟩
/-- What Of has made, its budgets turned. -/
theorem OfMem.turned {w w2 w3 : World} {U : Option Addr} {g n c q d b5 : Nat} {vs : List Value} {B B' : List Int} {V : List (List Int)} (h : OfMem w w2 (some ⟨g, 0, none⟩) n c U q d b5 vs B V) (hb : Kept w2.heap.size [g] w2 w3) (hg : g < b5) (hR : RwB w3 g n c B') (hl : B'.length = n) :
    MktAt w3 (some ⟨g, 0, none⟩) n U q B' (ofV V) where
  hB := hl
  hV := h.lq.symm
  budgets := hR.ints
  uses := by
    have hne : ∀ {v : Value} {e size m : Nat} {xs : List Value}, w2.ownsRow b5 e size v m xs → w3.ownsRow b5 e size v m xs := by
      intro v e size m xs ho
      obtain ⟨h1, h2⟩ := ho
      refine ⟨h1, ?_⟩
      rcases h2 with h2 | ⟨g', cap, cur, hv, a1, a2, a3⟩
      · exact .inl h2
      · exact .inr ⟨g', cap, cur, hv, a1, (hb.block g' (lt_of_block a2) (by simp; omega)).trans a2, a3⟩
    exact ORows.mat ⟨h.rows.1, fun j os hj => by obtain ⟨A', c', h1, h2⟩ := h.rows.2.1 j os hj; exact ⟨A', c', h1, hne h2⟩, h.rows.2.2⟩ (hne h.use)

/- MarketMore: the walk. -/

theorem more_le {B : List Int} {V : List (List Int)} {r r' : List Rat × List (List Rat)} (h : prF B V = some r) {p : Nat} {x y : Int} (hx : B[p]? = some x) (hy : x ≤ y) (h' : prF (B.set p y) V = some r') :
    r'.1.length = r.1.length ∧ ∀ (g : Nat) (a b : Rat), r.1[g]? = some a → r'.1[g]? = some b → a ≤ b := by
  obtain ⟨hv, hs⟩ := prF_ok h
  obtain ⟨hv', hs'⟩ := prF_ok h'
  refine ⟨by rw [hs.lp, hs'.lp], fun g a b ha hb => ?_⟩
  obtain ⟨hm, _, _⟩ := mkOk_of hv
  have hE := hs.equi hv
  have hE' := hs'.equi hv'
  rw [List.length_set] at hE'
  have hg : g < goodsN V := by rw [← hs.lp]; exact (List.getElem?_eq_some_iff.1 ha).1
  have h1 := hE.mono hE' hm.un hm.us (fun i _ => by
    unfold budQ
    rw [List.getD_eq_getElem?_getD, List.getD_eq_getElem?_getD, List.getElem?_set]
    by_cases e : p = i
    · subst e
      rw [if_pos rfl, if_pos (List.getElem?_eq_some_iff.1 hx).1, hx]
      exact_mod_cast hy
    · rw [if_neg e]
      exact Rat.le_refl) g hg
  unfold priQ at h1
  rwa [List.getD_eq_getElem?_getD, List.getD_eq_getElem?_getD, ha, hb] at h1
theorem low_pr {q : Rat} (h : PrS q) : lowB q.num q.den = true := by
  obtain ⟨a1, a2, a3⟩ := h
  have hd := den_pos q
  unfold lowB
  rw [decide_eq_true (by omega), decide_eq_true (by omega), rat_lowest q]
  rfl
set_option maxRecDepth 100000 in
set_option maxHeartbeats 4000000 in
theorem law_mmore (A : Option Addr) (n c : Nat) (U : Option Addr) (m d : Nat) (B : List Int) (V : List (List Int)) (bu by_ : Int) (W : World) (hK : MktArg W A n c U m d B V) (_ : -9223372036854775808 ≤ bu ∧ bu ≤ 9223372036854775807) (_ : -9223372036854775808 ≤ by_ ∧ by_ ≤ 9223372036854775807) :
    Calls Try.prog 4 #[mktV A n c U m d, .int .i64 bu, .int .i64 by_] W fun e w' => e = .returned (.bool true) ∧ Below W.heap.size W w' := by
  have hC1 := Ch.start W A n c U m d
  obtain ⟨w1, hw1⟩ : ∃ w1, w1 = W.alloc (.cells #[.slice A n c, .slice U m d] 25) := ⟨_, rfl⟩
  rw [← hw1] at hC1
  have HK := Lib.hid hK
  have HC1 := Lib.hid hC1
  obtain ⟨m1, m2, _, _⟩ := hC1.1.at2
  clear hK hC1
  unfold mktV
  go_enter Try.func4, Try.ntmps4
  go_wp2_with fail
  rw [← hw1]
  clear hw1
  refine ((HK.out.below HC1.out.2).of).mono ?_
  rintro e w2 ⟨A2, n2, c2, U2, q2, d2, b2, vs2, rfl, hO2⟩
  have HC2 := Lib.hid (HC1.out.next hO2.below)
  have HO2 := Lib.hid hO2
  clear hO2 m1 m2
  go_wp2_with fail
  refine (of_prices HO2.out).mono ?_
  intro ev w3 hpost
  unfold PricesPost at hpost
  obtain ⟨hb3, hpost⟩ := hpost
  have HC3 := Lib.hid (HC2.out.next hb3)
  clear hb3
  obtain ⟨m1, m2, _, _⟩ := HC3.out.1.at2
  cases hp : prF B V with
  | none =>
    rw [hp] at hpost
    subst hpost
    clear hp
    go_wp2_with fail
    refine (l4awake_any _).mono ?_
    rintro e w6 ⟨rfl, hb6⟩
    have HC6 := Lib.hid (HC3.out.next hb6)
    clear hb6
    go_wp2_with fail
    go_ret
    exact ⟨rfl, HC6.out.2⟩
  | some r =>
    rw [hp] at hpost
    obtain ⟨PA, pc, rfl, hown3⟩ := hpost
    have hpr := prF_ok hp
    have hpl := hpr.2.lp
    have hg3 := (validM_iff.1 hpr.1).2.1
    have hn3 := (validM_iff.1 hpr.1).1
    have hbud := hn3.2.2
    have hnB := HK.out.mkt.hB
    have hsame := of_same (.inr hpr.1)
    obtain ⟨k, hk⟩ : ∃ k, k = goodsN V := ⟨_, rfl⟩
    rw [← hk] at hg3 hpl
    have hfr3 := Fracs.of_cells (At.of_own hown3)
    have HP := Lib.hid (And.intro hp (And.intro hpr (And.intro hpl (And.intro hk (And.intro hn3 hsame)))))
    have HF3 := Lib.hid hfr3
    have HV := Lib.hid (HK.out.below HC3.out.2).valid
    rw [hpr.1] at HV
    rw [hpl]
    have hn13 : 1 ≤ n ∧ n ≤ 3 := by omega
    clear hp hpr hpl hk hown3 hfr3 hn3 hsame hbud
    go_wp2_with fail
    refine HV.out.mono ?_
    rintro e w4 ⟨rfl, hb4⟩
    have HC4 := Lib.hid (And.intro (HC3.out.next hb4) (HF3.out.below hb4))
    clear hb4 m1 m2 HV
    obtain ⟨m1, m2, _, _⟩ := HC4.out.1.1.at2
    have hn0 : ¬ n = 0 := by omega
    go_wp2_with fail
    obtain ⟨p, hpn, hpe⟩ := idxM_of bu (k := (n : Int)) (by omega) (by omega)
    have hpn' : p < n := by omega
    rw [hpe]
    clear hpe
    refine ((HK.out.below HC4.out.1.2).of).mono ?_
    rintro e w5 ⟨A5, n5, c5, U5, q5, d5, b5, vs5, rfl, hO5⟩
    obtain rfl : n = n5 := by rw [hO5.ln, HP.out.2.2.2.2.2.1]; exact hnB.symm
    obtain ⟨g, rfl, hg1, hg2, hR⟩ := hO5.rowB HP.out.2.2.2.2.2.1 (by omega)
    obtain ⟨x, hx⟩ : ∃ x, B[p]? = some x := ⟨_, List.getElem?_eq_getElem (by rw [hnB]; exact hpn')⟩
    have hxb := HP.out.2.2.2.2.1.2.2.1 x (List.mem_of_getElem? hx)
    have HC5 := Lib.hid (And.intro (HC4.out.1.next hO5.below) (And.intro (HC4.out.2.below hO5.below') (hO5.below)))
    have HO5 := Lib.hid hO5
    have hgl := hR.lt
    obtain ⟨w6, hw6⟩ : ∃ w6, w6 = w5.alloc (.cells #[.slice (some ⟨g, 0, none⟩) n c5, .slice U5 q5 d5] 30) := ⟨_, rfl⟩
    have hX : Blk w6 w5.heap.size 30 #[.slice (some ⟨g, 0, none⟩) n c5, .slice U5 q5 d5] := by rw [hw6]; exact Blk.new _ _ _ rfl
    have hb6 : Below w5.heap.size w5 w6 := by rw [hw6]; exact (Below.refl _ _).alloc (Nat.le_refl _) _
    have hR6 := hR.below hb6
    have c1 := hR6.read hx
    have c2 := hR6.frozen p
    obtain ⟨x1, x2, _, _⟩ := hX.at2
    have hs6 : w6.heap.size = w5.heap.size + 1 := by rw [hw6]; simp
    have HX := Lib.hid (And.intro hX (And.intro hb6 (And.intro hR6 (And.intro hx hs6))))
    have l1 : (p : Int) < (n : Int) := by omega
    have hgne : g ≠ w5.heap.size := by omega
    clear hO5 hR hX hb6 hR6 hx hs6 m1 m2
    go_upto_region 6 with fail
    rw [← hw6]
    clear hw6
    go_wp2_with fail
    obtain ⟨y, hy, hye⟩ := byM_of by_ (k := 9) (by omega) (by omega)
    rw [hye]
    clear hye
    have hxy : wrap64 (x + y) = x + y := by
      have hr : -100 ≤ x + y ∧ x + y ≤ 100 := by omega
      generalize x + y = z at *
      unfold wrap64
      go_num
    rw [hxy]
    clear hxy
    obtain ⟨w7, hw7⟩ : ∃ w7, w7 = w6.setCell ⟨g, p, none⟩ (.int .i64 (x + y)) := ⟨_, rfl⟩
    rw [← hw7]
    have hR7 : RwB w7 g n c5 (B.set p (x + y)) := by rw [hw7]; exact HX.out.2.2.1.set_ p (x + y)
    have hk7 : Kept w5.heap.size [g] w5 w7 := by rw [hw7]; exact (Kept.of_below HX.out.2.1 _).setCell (.inl (by simp)) _
    have hb7 : Below w4.heap.size w4 w7 := by rw [hw7]; exact ((HO5.out.below).trans (HX.out.2.1.mono HO5.out.below.size)).setCell hg1 _
    have hM7 := HO5.out.turned hk7 hg2 hR7 (by rw [List.length_set]; exact hnB)
    rw [HP.out.2.2.2.2.2.2] at hM7
    have hsz := HO5.out.sizes
    have hpo := mprices_any (some ⟨g, 0, none⟩) n c5 U5 q5 d5 (B.set p (x + y)) V w7 hM7 (by omega) (by omega) (fun r hr => by
      have h1 := (rowOk_iff.1 ((validM_iff.1 HP.out.2.1.1).2.2.1 r hr)).1
      rw [h1, ← HP.out.2.2.2.1]; omega) (found_any _ _)
    have HC7 := Lib.hid (And.intro (HC4.out.1.next hb7) (HC4.out.2.below hb7))
    have HPO := Lib.hid hpo
    clear hR7 hk7 hb7 hM7 hpo hw7 x1 x2 c1 c2
    refine HPO.out.mono ?_
    intro ev w8 hpost
    unfold PricesPost at hpost
    obtain ⟨hb8, hpost⟩ := hpost
    have HC8 := Lib.hid (And.intro (HC7.out.1.next hb8) (HC7.out.2.below hb8))
    clear hb8
    obtain ⟨m1, m2, _, _⟩ := HC8.out.1.1.at2
    cases hp2 : prF (B.set p (x + y)) V with
    | none =>
      rw [hp2] at hpost
      subst hpost
      clear hp2
      go_wp2_with fail
      refine (l4awake_any _).mono ?_
      rintro e w9 ⟨rfl, hb9⟩
      have HC9 := Lib.hid (HC8.out.1.next hb9)
      clear hb9
      go_wp2_with fail
      go_ret
      exact ⟨rfl, HC9.out.2⟩
    | some r' =>
      rw [hp2] at hpost
      obtain ⟨QA, qc, rfl, hown8⟩ := hpost
      have hfr8 := Fracs.of_cells (At.of_own hown8)
      obtain ⟨hl2, hle⟩ := more_le HP.out.1 HX.out.2.2.2.1 (by omega) hp2
      have hps2 := (prF_ok hp2).2.ps
      rw [hl2, HP.out.2.2.1]
      have H8 := Lib.hid (And.intro hfr8 (And.intro hle (And.intro hps2 (hl2.trans HP.out.2.2.1))))
      clear hown8 hfr8 hle hps2 hl2 hp2 m1 m2 hy
      go_wp2_with fail
      go_loopw [66] (fun iv wx => ∃ j : Nat, j ≤ k ∧ iv = .int .i64 j ∧ Below w8.heap.size w8 wx) (fun iv _ => k - (intOf iv).toNat)
      case atStart => exact ⟨0, Nat.zero_le _, rfl, Below.refl _ _⟩
      case round =>
        obtain ⟨j, hj, rfl, hbl⟩ := hrel
        by_cases hjk : j < k
        · obtain ⟨q1, hq1⟩ : ∃ q, r.1[j]? = some q := ⟨_, List.getElem?_eq_getElem (by rw [HP.out.2.2.1]; exact hjk)⟩
          obtain ⟨q2, hq2⟩ : ∃ q, r'.1[j]? = some q := ⟨_, List.getElem?_eq_getElem (by rw [H8.out.2.2.2]; exact hjk)⟩
          have p1 := HP.out.2.1.2.ps q1 (List.mem_of_getElem? hq1)
          have p2 := H8.out.2.2.1 q2 (List.mem_of_getElem? hq2)
          have hle := H8.out.2.1 j q1 q2 hq1 hq2
          obtain ⟨a1, hA1, _, hc1⟩ := (HC8.out.2.below hbl).some_ (by rw [HP.out.2.2.1]; omega)
          obtain ⟨a2, hA2, _, hc2⟩ := (H8.out.1.below hbl).some_ (by rw [H8.out.2.2.2]; omega)
          subst hA1; subst hA2
          obtain ⟨v1, v2⟩ := hc1 j q1 hq1
          obtain ⟨v3, v4⟩ := hc2 j q2 hq2
          have d1 : ∀ s : Desc wr, s.val.cell? (a1.add (j * 2)) = some (.int .i64 q1.num) := fun s => s.cell v1
          have d2 : ∀ s : Desc wr, s.val.cell? ⟨(a1.add (j * 2)).block, (a1.add (j * 2)).off + 1, none⟩ = some (.int .i64 (q1.den : Int)) := fun s => s.cell v2
          have d3 : ∀ s : Desc wr, s.val.cell? (a2.add (j * 2)) = some (.int .i64 q2.num) := fun s => s.cell v3
          have d4 : ∀ s : Desc wr, s.val.cell? ⟨(a2.add (j * 2)).block, (a2.add (j * 2)).off + 1, none⟩ = some (.int .i64 (q2.den : Int)) := fun s => s.cell v4
          have HLOW : Hid (∀ (s : Desc wr) (q : Rat), PrS q → Calls Try.prog 21 #[.agg #[.int .i64 q.num, .int .i64 (q.den : Int)]] s.val fun e w'' => e = .returned (.bool true) ∧ ∃ s' : Desc wr, w'' = s'.val) := Lib.hid fun s q hq =>
            Calls.desc_of ((rlowest_any q.num q.den _ (by have := hq.1; omega) (by have := hq.2.1; omega) (by have := hq.2.2; omega)).mono fun e w' h => ⟨by rw [h.1, low_pr hq], h.2⟩)
          have HLS : Hid (∀ s : Desc wr, Calls Try.prog 22 #[.agg #[.int .i64 q2.num, .int .i64 (q2.den : Int)], .agg #[.int .i64 q1.num, .int .i64 (q1.den : Int)]] s.val fun e w'' => e = .returned (.bool false) ∧ ∃ s' : Desc wr, w'' = s'.val) := Lib.hid fun s =>
            Calls.desc_of ((rless_use q2 q1 s.val ⟨⟨by have := p2.1; omega, by have := p2.2.1; omega⟩, by have := p2.2.2; omega⟩ ⟨⟨by have := p1.1; omega, by have := p1.2.1; omega⟩, by have := p1.2.2; omega⟩).mono fun e w' h => ⟨by rw [h.1, decide_eq_false (by grind)], h.2⟩)
          have HPP := Lib.hid (And.intro p1 p2)
          have HBj := Lib.hid hbl
          have l3 : (j : Int) < (k : Int) := by omega
          have l4 : (0 : Int) ≤ (j : Int) := by omega
          clear v1 v2 v3 v4 hc1 hc2 hle p1 p2 hq1 hq2 hbl
          go_upto_region 13 with fail
          refine wp_region_desc (by kernel_rfl) (by kernel_rfl) ?_
          repeat (go_big_quiet_step (first | (go_at_call 21; exact HLOW.out _ _ (by first | exact HPP.out.1 | exact HPP.out.2)) | (go_at_call 22; exact HLS.out _)))
          refine wpQuiet_nil ?_
          rintro _ ⟨sd, rfl⟩
          have HBE := Lib.hid (HBj.out.trans (sd.below.mono HBj.out.size))
          clear d1 d2 d3 d4
          go_wp2_with fail
          go_roundw
          case rel => exact ⟨j + 1, by omega, by go_num, HBE.out⟩
          case measure => simp [intOf]; omega
        · obtain rfl : j = k := by omega
          have HC9 := Lib.hid (HC8.out.1.next hbl)
          clear hbl
          go_wp2_with fail
          refine (l4awake_any _).mono ?_
          rintro e w9 ⟨rfl, hb9⟩
          have HC10 := Lib.hid (HC9.out.next hb9)
          clear hb9
          go_wp2_with fail
          go_ret
          exact ⟨rfl, HC10.out.2⟩
end Go.Proofs.Ytnljnjnmhbkdoaa
