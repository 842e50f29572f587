/- Laws and contracts that the proof of the market rows uses, part 6. -/
import Derived.Test.YtnljnjnmhbkdoaaBaseM5
import Derived.Test.YtnljnjnmhbkdoaaBaseM1
import Derived.Test.YtnljnjnmhbkdoaaBaseM2
import Derived.Deep.DeepCutAuto
import Derived.Test.YtnljnjnmhbkdoaaRows
import Derived.ProofKit
import Derived.OpenShut
import Derived.Deep.SlicePairs
import Derived.Test.YtnljnjnmhbkdoaaBaseM3
import Derived.Test.YtnljnjnmhbkdoaaBaseM4
namespace Go.Proofs.Ytnljnjnmhbkdoaa
open Go.RowKit

/- Contracts: slices.Clone of fractions; prices and spendings of the laws' package. -/

set_option maxHeartbeats 400000 in
theorem cloneF4_any (A : Option Addr) (n cap : Nat) (ps : List (Int × Int)) (w : World) (hl : ps.length = n) (hm : n ≤ 1000000000) (h : Prs w A ps) :
    Calls Try.prog 55 #[.slice A n cap] w fun e w' => ∃ A' c, e = .returned (.slice A' n c) ∧ w'.ownsRow w.heap.size 37 2 (.slice A' n c) n (pcells ps) ∧ Below w.heap.size w w' := by
  have qT : ∀ (w : World) (a : Option Addr) (n c n' c' : Nat), (binOp .eql 26 (.slice a n c) (.slice none n' c')).run Try.prog w = .ok (.bool a.isNone) w := fun w a n c n' c' => Lib.run_eql_slice_nil w _ _ a n c n' c' Try.underlying26
  obtain ⟨i0, hi, hz0, hz1, hz2⟩ := info_parts info_frac
  rcases A with _ | ad
  · have h0 : ps = [] := by
      cases ps with
      | nil => rfl
      | cons x l => obtain ⟨ad, e, _⟩ := h 0 (.int .i64 x.1) rfl; cases e
    subst h0
    obtain rfl : n = 0 := by simpa using hl.symm
    clear h hl
    go_enter Try.func55, Try.ntmps55
    go_wp2
    go_ret
    exact ⟨none, 0, rfl, World.ownsRow_nil _ _ _ _, Below.refl _ _⟩
  · have HL := Lib.hid (And.intro hl (pcells_length ps))
    have HC := Lib.hid (At.some2 h)
    clear hl h
    go_enter Try.func55, Try.ntmps55
    go_wp2_with (at_builtin; refine wpList_append_own _ rfl _ _ 26 rfl w.heap.size 37 i0 (.agg #[.int .i64 0, .int .i64 0]) 2 16 Try.underlying26 hi hz0 hz1 hz2 rfl (by decide) _ 0 [] rfl (World.ownsRow_made w #[] 0 (Nat.le_refl _) (by decide) rfl) ad n cap (pcells ps) rfl ?c1 ?c2 ?c3 ?c4 ?c5 ?c6 ?_)
    case c1 => obtain ⟨a, c⟩ := HL.out; omega
    case c2 => exact At.new HC.out
    case c3 => exact pcells_one ps
    case c4 => unfold maxLen; omega
    case c5 => omega
    case c6 => go_size
    intro v' w1 hown hgrow _
    obtain ⟨A', c, rfl, _⟩ := own_form hown
    go_wp2
    go_ret
    refine ⟨A', c, by simp, by simpa using hown, ?_⟩
    exact (((Below.refl _ _).alloc (Nat.le_refl _) _)).grown hgrow (by go_size) (by intro k hk; simp [Value.ownBlock] at hk; omega)
theorem l4prices_any (A : Option Addr) (n cap : Nat) (ps : List (Int × Int)) (w : World) (hl : ps.length = n) (hc : n ≤ cap) (hm : cap ≤ 9223372036854775807) (h : Prs w A ps) :
    Calls Try.prog 33 #[.slice A n cap] w fun e w' => ∃ A' c, e = .returned (.slice A' (min n 6) c) ∧ w'.ownsRow w.heap.size 37 2 (.slice A' (min n 6) c) (min n 6) (pcells (ps.take 6)) ∧ Below w.heap.size w w' := by
  have hk := h.take 6
  have hl' : (ps.take 6).length = min n 6 := by rw [List.length_take, hl]; omega
  have HK := Lib.hid hk
  have HL := Lib.hid hl'
  clear hk h hl hl'
  by_cases h0 : n ≤ 6
  · have e0 : min n 6 = n := by omega
    rw [e0]
    have HE := Lib.hid e0
    clear e0
    go_enter Try.func33, Try.ntmps33
    go_wp2_with fail
    refine (cloneF4_any A n cap (ps.take 6) _ (by rw [HL.out, HE.out]) (by omega) HK.out).mono ?_
    rintro e w' ⟨A', c, rfl, hown, hb⟩
    have HO := Lib.hid hown
    have HB := Lib.hid hb
    clear hown hb
    go_wp2
    go_ret
    exact ⟨A', c, rfl, HO.out, HB.out⟩
  · have e0 : min n 6 = 6 := by omega
    rw [e0]
    have HE := Lib.hid e0
    clear e0
    go_enter Try.func33, Try.ntmps33
    go_wp2_with fail
    refine (cloneF4_any A 6 cap (ps.take 6) _ (by rw [HL.out, HE.out]) (by omega) HK.out).mono ?_
    rintro e w' ⟨A', c, rfl, hown, hb⟩
    have HO := Lib.hid hown
    have HB := Lib.hid hb
    clear hown hb
    go_wp2
    go_ret
    exact ⟨A', c, rfl, HO.out, HB.out⟩
/-- A copy of some rows. -/
def spsV (L : List (List (Int × Int))) : List (List (Int × Int)) := (L.take 6).map (·.take 6)
theorem spsV_on {L : List (List (Int × Int))} {k : Nat} {r : List (Int × Int)} (h : L[k]? = some r) (hk : k < 6) : spsV (L.take (k + 1)) = spsV (L.take k) ++ [r.take 6] := by
  unfold spsV
  rw [List.take_take, List.take_take, show min 6 (k + 1) = k + 1 by omega, show min 6 k = k by omega, List.take_add_one, h]
  simp
theorem spsV_off {L : List (List (Int × Int))} {k : Nat} (hk : 6 ≤ k) : spsV (L.take (k + 1)) = spsV (L.take k) := by
  unfold spsV
  rw [List.take_take, List.take_take, show min 6 (k + 1) = 6 by omega, show min 6 k = 6 by omega]
theorem spsV_length (L : List (List (Int × Int))) : (spsV L).length = min 6 L.length := by simp [spsV]
/-- A slice of slices of pairs whose slices have room as slices have. -/
def CMat (w : World) (A : Option Addr) (L : List (List (Int × Int))) : Prop :=
  ∀ (j : Nat) (ps : List (Int × Int)), L[j]? = some ps → ∃ ad A' c, A = some ad ∧ w.cell? (ad.add j) = some (.slice A' ps.length c) ∧ ps.length ≤ c ∧ c ≤ 9223372036854775807 ∧ Prs w A' ps
set_option maxRecDepth 100000 in
set_option maxHeartbeats 1600000 in
theorem l4spendings_any (A : Option Addr) (n cap : Nat) (L : List (List (Int × Int))) (w : World) (hl : L.length = n) (hn : n ≤ 9223372036854775807) (hL : CMat w A L) :
    Calls Try.prog 37 #[.slice A n cap] w fun e w' => ∃ A' q c, e = .returned (.slice A' q c) ∧ (spsV L).length = q ∧ PMat w' A' (spsV L) ∧ Below w.heap.size w w' := by
  have H := Lib.hid (And.intro hl hL)
  clear hl hL
  go_enter Try.func37, Try.ntmps37
  go_wp2_with fail
  go_loopw [3, 8] (fun ov iv wr => ∃ (k : Nat) (B : Option Addr) (q bc : Nat) (vs : List Value), k ≤ n ∧ iv = .int .i64 k ∧ ov = .slice B q bc ∧ q = (spsV (L.take k)).length ∧ wr.ownsRow w.heap.size 26 1 (.slice B q bc) q vs ∧ FRows 37 wr w.heap.size vs (spsV (L.take k)) ∧ Below w.heap.size w wr) (fun _ iv _ => n - (intOf iv).toNat)
  case atStart => exact ⟨0, none, 0, 0, [], Nat.zero_le _, rfl, rfl, rfl, World.ownsRow_nil _ _ _ _, FRows.nil, Below.refl _ _⟩
  case round =>
    obtain ⟨k, B, q, bc, vs, hk, rfl, rfl, hq, hown, hrows, hbl⟩ := hrel
    obtain ⟨wo, rfl⟩ : ∃ wo : World, wo = wr := ⟨_, rfl⟩
    have hq6 : q ≤ 6 := by rw [hq, spsV_length]; omega
    have HR := Lib.hid (And.intro hown (And.intro hrows (And.intro hbl hq)))
    have hwsz := hbl.size
    clear hown hrows hbl hq
    by_cases hlt : k < n
    · obtain ⟨r, hr⟩ : ∃ r, L[k]? = some r := ⟨_, List.getElem?_eq_getElem (by have := H.out.1; omega)⟩
      obtain ⟨ad, A', c, rfl, hcell, hrc, hc2, hI⟩ := H.out.2 k r hr
      have hcell2 := (HR.out.2.2.1.cell (lt_of_cell hcell)).trans hcell
      obtain ⟨rl, hrl⟩ : ∃ rl, rl = r.length := ⟨_, rfl⟩
      rw [← hrl] at hcell2 hrc
      have HI := Lib.hid (And.intro (hI.below HR.out.2.2.1) (And.intro hrl hr))
      clear hr hcell hI hrl
      by_cases h6 : k < 6
      · go_wp2_with fail
        refine (l4prices_any A' rl c r _ HI.out.2.1.symm hrc hc2 HI.out.1).mono ?_
        rintro e w2 ⟨A2, c2, rfl, hown2, hb2⟩
        have hw2 := hb2.size
        have hmin : (r.take 6).length = min rl 6 := by rw [List.length_take, HI.out.2.1]; omega
        have hrow2 : FRow1 37 w2 w.heap.size (.slice A2 (min rl 6) c2) (r.take 6) := FRow1.of_own hown2 hmin _
        have hrows2 := (HR.out.2.1.below hb2).append (FRows.one_ hrow2)
        rw [← spsV_on HI.out.2.2 h6] at hrows2
        have hlen : (spsV (L.take (k + 1))).length = q + 1 := by rw [spsV_on HI.out.2.2 h6, List.length_append, ← HR.out.2.2.2]; rfl
        have H2 := Lib.hid (And.intro (own_below HR.out.1 hb2) (And.intro hrows2 (And.intro (HR.out.2.2.1.trans (hb2.mono hwsz)) hlen)))
        have hsz : w.heap.size ≤ w2.heap.size := H2.out.2.2.1.size
        clear hown2 hb2 hmin hrow2 hrows2 hlen
        go_wp2_with (at_builtin; refine app1g sty_fracss rfl _ _ rfl w.heap.size B q bc _ #[.slice A2 (min rl 6) c2] rfl (by simp [Value.oneCell']) rfl H2.out.1 _ rfl (by simp) (by omega) hsz ?_)
        intro A8 k8 w8 hown8 hg8 hbl8 hk81 hk82
        have hrows8 := H2.out.2.1.grown fr_ne H2.out.1 (Nat.le_refl _) hg8
        have H8 := Lib.hid (And.intro hown8 (And.intro hrows8 (H2.out.2.2.1.trans hbl8)))
        clear hown8 hg8 hbl8 hrows8
        go_wp2_with fail
        go_roundw
        case rel => exact ⟨k + 1, A8, q + 1, k8, _, by omega, by go_num, by go_num, H2.out.2.2.2.symm, H8.out.1, H8.out.2.1, H8.out.2.2⟩
        case measure => simp [intOf]; omega
      · have HE := Lib.hid (spsV_off (L := L) (k := k) (by omega))
        go_wp2_with fail
        go_roundw
        case rel => exact ⟨k + 1, B, q, bc, vs, by omega, by go_num, rfl, by rw [HE.out]; exact HR.out.2.2.2, HR.out.1, by rw [HE.out]; exact HR.out.2.1, HR.out.2.2.1⟩
        case measure => simp [intOf]; omega
    · obtain rfl : n = k := by omega
      go_wp2_with fail
      go_ret
      have hT : L.take n = L := List.take_of_length_le (by have := H.out.1; omega)
      obtain ⟨g1, g2, g3, g4⟩ := HR.out
      rw [hT] at g2 g4
      exact ⟨B, q, bc, rfl, g4.symm, PMat.of_rows g2 g1, g3⟩

/- Contract: Valid of the reference. -/

/-- Which goods are of use to someone of the first i, or to the next one among the first g. -/
def ofB (V : List (List Int)) (i : Nat) (r : List Int) (g h : Nat) : Bool := (V.take i).any (fun r => decide (0 < r.getD h 0)) || (decide (h < g) && decide (0 < r.getD h 0))
def ofA (V : List (List Int)) (i : Nat) (r : List Int) (g : Nat) : Array Value := #[.bool (ofB V i r g 0), .bool (ofB V i r g 1), .bool (ofB V i r g 2)]
theorem ofB_zero (V : List (List Int)) (i : Nat) (r r' : List Int) (h : Nat) : ofB V i r 0 h = ofB V i r' 0 h := by simp [ofB]
theorem ofB_next {V : List (List Int)} {i : Nat} {r r' : List Int} (hr : V[i]? = some r) {h : Nat} : ofB V i r r.length h = ofB V (i + 1) r' 0 h := by
  unfold ofB
  rw [mem_take_succ hr, List.any_append]
  by_cases hh : h < r.length
  · simp [hh]
  · have : r.getD h 0 = 0 := by rw [List.getD_eq_getElem?_getD, List.getElem?_eq_none (by omega)]; rfl
    simp [hh]
theorem ofB_same {V : List (List Int)} {i : Nat} {r : List Int} {g h : Nat} (hh : h ≠ g) : ofB V i r (g + 1) h = ofB V i r g h := by
  unfold ofB
  have : decide (h < g + 1) = decide (h < g) := by rw [decide_eq_decide]; omega
  rw [this]
theorem ofB_at {V : List (List Int)} {i : Nat} {r : List Int} {g : Nat} : ofB V i r (g + 1) g = (ofB V i r g g || decide (0 < r.getD g 0)) := by
  unfold ofB
  simp
theorem ofA_set {V : List (List Int)} {i : Nat} {r : List Int} {g : Nat} (hg : g < 3) : (ofA V i r g).setIfInBounds g (.bool (ofB V i r g g || decide (0 < r.getD g 0))) = ofA V i r (g + 1) := by
  have h3 : g = 0 ∨ g = 1 ∨ g = 2 := by omega
  unfold ofA
  rcases h3 with rfl | rfl | rfl
  · rw [← ofB_at, ofB_same (g := 0) (h := 1) (by omega), ofB_same (g := 0) (h := 2) (by omega)]; rfl
  · rw [← ofB_at, ofB_same (g := 1) (h := 0) (by omega), ofB_same (g := 1) (h := 2) (by omega)]; rfl
  · rw [← ofB_at, ofB_same (g := 2) (h := 0) (by omega), ofB_same (g := 2) (h := 1) (by omega)]; rfl
theorem ofA_get {V : List (List Int)} {i : Nat} {r : List Int} {g h : Nat} (hh : h < 3) : (ofA V i r g)[h]? = some (.bool (ofB V i r g h)) := by
  have h3 : h = 0 ∨ h = 1 ∨ h = 2 := by omega
  rcases h3 with rfl | rfl | rfl <;> rfl
theorem ofA_next {V : List (List Int)} {i : Nat} {r r' : List Int} (hr : V[i]? = some r) : ofA V i r r.length = ofA V (i + 1) r' 0 := by
  unfold ofA
  rw [ofB_next hr (r' := r'), ofB_next hr (r' := r'), ofB_next hr (r' := r')]
theorem invalid_row {B : List Int} {V : List (List Int)} {i : Nat} {r : List Int} (hr : V[i]? = some r) (h : rowOk (goodsN V) r = false) : validM B V = false := by
  unfold validM
  rw [all_bad hr h, Bool.false_and, Bool.and_false, Bool.and_false]
theorem invalid_bud {B : List Int} {V : List (List Int)} {i : Nat} {b : Int} (hr : B[i]? = some b) (h : budOk b = false) : validM B V = false := by
  unfold validM
  rw [all_bad hr h, Bool.false_and, Bool.and_false, Bool.and_false, Bool.false_and]
set_option maxRecDepth 100000 in
set_option maxHeartbeats 1600000 in
theorem r4valid_any (A : Option Addr) (n c : Nat) (U : Option Addr) (m d : Nat) (B : List Int) (V : List (List Int)) (w : World) (h : MktAt w A n U m B V) (hn : n ≤ 9223372036854775807) (hm : m ≤ 9223372036854775807) (hr : ∀ r ∈ V, r.length ≤ 9223372036854775807) :
    Calls Try.prog 16 #[mktV A n c U m d] w fun e w' => e = .returned (.bool (validM B V)) ∧ Below w.heap.size w w' := by
  have hb1 : Below w.heap.size w (w.alloc (.cells #[.slice A n c, .slice U m d] 25)) := (Below.refl _ _).alloc (Nat.le_refl _) _
  have hM1 : Blk (w.alloc (.cells #[.slice A n c, .slice U m d] 25)) w.heap.size 25 #[.slice A n c, .slice U m d] := Blk.new _ _ _ rfl
  have hBn := h.hB
  have hVm := h.hV
  have H := Lib.hid (And.intro h (And.intro hb1 (And.intro hM1 (And.intro hBn (And.intro hVm hr)))))
  clear h hb1 hM1 hBn hVm hr
  unfold mktV
  go_enter Try.func16, Try.ntmps16
  have hlen : ¬ (1 ≤ n ∧ n ≤ 3 ∧ m = n) → validM B V = false := by
    intro hno
    cases hv : validM B V with
    | false => rfl
    | true =>
      obtain ⟨⟨a1, a2, _, a4⟩, _⟩ := validM_iff.1 hv
      rw [H.out.2.2.2.1, H.out.2.2.2.2.1] at *
      exact absurd ⟨a1, a2, a4⟩ hno
  have HLEN := Lib.hid hlen
  clear hlen
  by_cases h1 : (n : Int) < 1
  · have HNO := Lib.hid (HLEN.out (by omega))
    go_wp2_with fail
    go_ret
    exact ⟨by rw [HNO.out]; rfl, H.out.2.1⟩
  by_cases h2 : 3 < (n : Int)
  · have HNO := Lib.hid (HLEN.out (by omega))
    go_wp2_with fail
    go_ret
    exact ⟨by rw [HNO.out]; rfl, H.out.2.1⟩
  by_cases h3 : (m : Int) = (n : Int)
  · obtain rfl : m = n := by omega
    obtain ⟨aU, rfl, _, hcU⟩ := H.out.1.uses.some_ (by rw [H.out.1.hV]; omega)
    obtain ⟨R0, c0, hc0, _⟩ := hcU 0 _ (rowV_some (by rw [H.out.1.hV]; omega))
    have hk : (rowV V 0).length = goodsN V := rfl
    rw [hk] at hc0
    obtain ⟨k, hkk⟩ : ∃ k, k = goodsN V := ⟨_, rfl⟩
    rw [← hkk] at hc0
    have e0 : aU.add 0 = aU := by simp [Addr.add]
    rw [e0] at hc0
    have hc1 := (H.out.2.1.cell (lt_of_cell hc0)).trans hc0
    have hgood : ¬ (1 ≤ k ∧ k ≤ 3) → validM B V = false := by
      intro hno
      cases hv : validM B V with
      | false => rfl
      | true =>
        obtain ⟨_, b1, _⟩ := validM_iff.1 hv
        rw [hkk] at hno
        exact absurd b1 hno
    have HGOOD := Lib.hid hgood
    have HKK := Lib.hid hkk
    clear hgood hkk hk e0
    by_cases h4 : (k : Int) < 1
    · have HNO := Lib.hid (HGOOD.out (by omega))
      go_wp2_with fail
      go_ret
      exact ⟨by rw [HNO.out]; rfl, H.out.2.1⟩
    by_cases h5 : 3 < (k : Int)
    · have HNO := Lib.hid (HGOOD.out (by omega))
      go_wp2_with fail
      go_ret
      exact ⟨by rw [HNO.out]; rfl, H.out.2.1⟩
    obtain ⟨aB, rfl, _, hcB⟩ := H.out.1.budgets.some_ (by rw [H.out.1.hB]; omega)
    have HC := Lib.hid (And.intro hcU hcB)
    have hMm := H.out.2.2.1
    have HM := Lib.hid (And.intro hMm H.out.2.1)
    clear hcU hcB hMm
    obtain ⟨w1, hw1⟩ : ∃ w1, w1 = w.alloc (.cells #[.slice (some aB) m c, .slice (some aU) m d] 25) := ⟨_, rfl⟩
    rw [← hw1] at HM
    have hs1 : w1.heap.size = w.heap.size + 1 := by rw [hw1]; simp
    go_upto_region 6 with fail
    rw [← hw1]
    clear hw1 hc0 hc1
    have hb2 : Below w1.heap.size w1 (w1.alloc (.cells (ofA V 0 [] 0) 68)) := (Below.refl _ _).alloc (Nat.le_refl _) _
    have hO2 : Blk (w1.alloc (.cells (ofA V 0 [] 0) 68)) (w.heap.size + 1) 68 (ofA V 0 [] 0) := Blk.new _ _ _ hs1.symm
    have H2 := Lib.hid (And.intro (HM.out.1.below hb2 (by omega)) (And.intro (HM.out.2.trans (hb2.mono (by omega))) hO2))
    have h00 : ofA V 0 [] 0 = #[.bool false, .bool false, .bool false] := by simp [ofA, ofB]
    rw [h00] at H2
    clear hb2 hO2
    have HVM := Lib.hid (And.intro H.out.2.2.2.1 (And.intro H.out.2.2.2.2.1 h00))
    clear h00
    obtain ⟨n1, n2, _, _⟩ := HM.out.1.at2
    go_wp2_with fail
    clear n1 n2
    go_loopw [44] (fun iv wx => ∃ i : Nat, i ≤ m ∧ iv = .int .i64 i ∧ Blk wx (w.heap.size + 1) 68 (ofA V i [] 0) ∧ (∀ j, j < i → rowOk k (rowV V j) = true ∧ budOk (B.getD j 0) = true) ∧ Blk wx w.heap.size 25 #[.slice (some aB) m c, .slice (some aU) m d] ∧ Below w.heap.size w wx) (fun iv _ => m - (intOf iv).toNat)
    case atStart => exact ⟨0, Nat.zero_le _, rfl, by rw [HVM.out.2.2, hs1.symm]; rw [hs1]; exact H2.out.2.2, fun j hj => by omega, H2.out.1, H2.out.2.1⟩
    case round =>
      obtain ⟨i, hi, rfl, hO, hrows, hmk, hbl⟩ := hrel
      obtain ⟨wo, rfl⟩ : ∃ wo : World, wo = wr := ⟨_, rfl⟩
      have HR := Lib.hid (And.intro hO (And.intro hrows (And.intro hmk hbl)))
      obtain ⟨m1, m2, _, _⟩ := hmk.at2
      have hol := hO.lt
      clear hO hrows hmk hbl
      by_cases him : i < m
      · have hV := rowV_some (V := V) (i := i) (by rw [HVM.out.2.1]; exact him)
        obtain ⟨r, hre⟩ : ∃ r, r = rowV V i := ⟨_, rfl⟩
        rw [← hre] at hV
        obtain ⟨R, cr, hc1, hcr, hcr2, hI⟩ := HC.out.1 i r hV
        have c1 := (HR.out.2.2.2.cell (lt_of_cell hc1)).trans hc1
        obtain ⟨bx, hbx⟩ : ∃ b, B[i]? = some b := ⟨_, List.getElem?_eq_getElem (by rw [HVM.out.1]; exact him)⟩
        have hc2 := HC.out.2 i bx hbx
        have c2 := (HR.out.2.2.2.cell (lt_of_cell hc2)).trans hc2
        have hbg : B.getD i 0 = bx := by rw [List.getD_eq_getElem?_getD, hbx]; rfl
        obtain ⟨rl, hrl⟩ : ∃ rl, rl = r.length := ⟨_, rfl⟩
        rw [← hrl] at c1
        have HI := Lib.hid (And.intro hV (And.intro hI (And.intro hbx (And.intro hbg (And.intro hrl hre)))))
        clear hc1 hc2 hV hI hbx hbg hrl hre
        by_cases e1 : (rl : Int) = (k : Int)
        · by_cases e2 : bx < 1
          · have HNO : Hid (validM B V = false) := Lib.hid (invalid_bud HI.out.2.2.1 (by unfold budOk; rw [decide_eq_false (by omega)]; rfl))
            go_wp2_with fail
            go_ret
            exact ⟨by rw [HNO.out]; rfl, HR.out.2.2.2⟩
          by_cases e3 : 20 < bx
          · have HNO : Hid (validM B V = false) := Lib.hid (invalid_bud HI.out.2.2.1 (by unfold budOk; rw [decide_eq_false (show ¬ bx ≤ 20 by omega), Bool.and_false]))
            go_wp2_with fail
            go_ret
            exact ⟨by rw [HNO.out]; rfl, HR.out.2.2.2⟩
          obtain rfl : rl = k := by omega
          have HBD : Hid (budOk (B.getD i 0) = true) := Lib.hid (by rw [HI.out.2.2.2.1]; unfold budOk; rw [decide_eq_true (show 1 ≤ bx by omega), decide_eq_true (show bx ≤ 20 by omega)]; rfl)
          go_wp2_with fail
          go_loopw [71, 7] (fun gv sv wx => ∃ g : Nat, g ≤ rl ∧ gv = .int .i64 g ∧ sv = .bool ((r.take g).any fun x => decide (0 < x)) ∧ (r.take g).all in20 = true ∧ Blk wx (w.heap.size + 1) 68 (ofA V i r g) ∧ Blk wx w.heap.size 25 #[.slice (some aB) m c, .slice (some aU) m d] ∧ Below w.heap.size w wx) (fun gv _ _ => rl - (intOf gv).toNat)
          case atStart => exact ⟨0, Nat.zero_le _, rfl, rfl, rfl, by
            have h := HR.out.1
            unfold ofA at h ⊢
            rw [ofB_zero V i [] r, ofB_zero V i [] r, ofB_zero V i [] r] at h
            exact h, HR.out.2.2.1, HR.out.2.2.2⟩
          case round =>
            obtain ⟨g, hg, rfl, rfl, hall, hO, hmk, hbl⟩ := hrel
            obtain ⟨wl, rfl⟩ : ∃ wl : World, wl = wr := ⟨_, rfl⟩
            have HL := Lib.hid (And.intro hall (And.intro hO (And.intro hmk hbl)))
            have hol2 := hO.lt
            clear hall hO hmk hbl
            by_cases hgk : g < rl
            · obtain ⟨aR, rfl, _, hcR⟩ := HI.out.2.1.some_ (by rw [← HI.out.2.2.2.2.1]; omega)
              obtain ⟨x, hx⟩ : ∃ x, r[g]? = some x := ⟨_, List.getElem?_eq_getElem (by rw [← HI.out.2.2.2.2.1]; exact hgk)⟩
              have hc3 := hcR g x hx
              have c3 := (HL.out.2.2.2.cell (lt_of_cell hc3)).trans hc3
              have hxg : r.getD g 0 = x := by rw [List.getD_eq_getElem?_getD, hx]; rfl
              have o1 := (Blk.cell HL.out.2.1 g).trans (ofA_get (V := V) (i := i) (r := r) (g := g) (h := g) (by omega))
              have o2 := HL.out.2.1.frozen g
              have hxm := List.mem_of_getElem? hx
              have HX := Lib.hid (And.intro hx (And.intro hxg hxm))
              clear hcR hc3 hx hxg hxm
              by_cases e4 : x < 0
              · have HNO : Hid (validM B V = false) := Lib.hid (invalid_row HI.out.1 (by
                  cases hro : rowOk (goodsN V) r with
                  | false => rfl
                  | true => have := (rowOk_iff.1 hro).2.1 x HX.out.2.2; omega))
                go_wp2_with fail
                go_ret
                exact ⟨by rw [HNO.out]; rfl, HL.out.2.2.2⟩
              by_cases e5 : 20 < x
              · have HNO : Hid (validM B V = false) := Lib.hid (invalid_row HI.out.1 (by
                  cases hro : rowOk (goodsN V) r with
                  | false => rfl
                  | true => have := (rowOk_iff.1 hro).2.1 x HX.out.2.2; omega))
                go_wp2_with fail
                go_ret
                exact ⟨by rw [HNO.out]; rfl, HL.out.2.2.2⟩
              have HIN : Hid (in20 x = true) := Lib.hid (by unfold in20; rw [decide_eq_true (show 0 ≤ x by omega), decide_eq_true (show x ≤ 20 by omega)]; rfl)
              obtain ⟨sb, hsb⟩ : ∃ sb, sb = (r.take g).any fun x => decide (0 < x) := ⟨_, rfl⟩
              obtain ⟨obt, hob⟩ : ∃ ob, ob = ofB V i r g g := ⟨_, rfl⟩
              rw [← hob] at o1
              rw [← hsb]
              have HSB := Lib.hid (And.intro hsb hob)
              have HANY : Hid (((r.take (g + 1)).any fun x => decide (0 < x)) = (sb || decide (0 < x))) := Lib.hid (by
                rw [mem_take_succ HX.out.1, List.any_append, ← hsb]; simp)
              have HSET : Hid (Blk (wl.setCell ⟨w.heap.size + 1, g, none⟩ (.bool (obt || decide (0 < x)))) (w.heap.size + 1) 68 (ofA V i r (g + 1))) := Lib.hid (by
                have h := HL.out.2.1.set_ g (.bool (obt || decide (0 < x)))
                rw [hob] at h ⊢
                have h2 := ofA_set (V := V) (i := i) (r := r) (g := g) (by omega)
                rw [HX.out.2.1] at h2
                rw [h2] at h
                exact h)
              clear hsb hob HSB
              have hgi : (g : Int) < 3 := by omega
              cases sb <;> cases obt
              all_goals
                go_wp2_with fail
                go_roundw
                case rel => exact ⟨g + 1, by omega, by go_num, by rw [HANY.out]; rfl, all_take_s HX.out.1 HL.out.1 HIN.out, HSET.out, HL.out.2.2.1.far (by simp) _, HL.out.2.2.2.setCell (by simp) _⟩
                case measure => simp [intOf]; omega
            · obtain rfl : rl = g := by omega
              have ht : r.take rl = r := List.take_of_length_le (by rw [← HI.out.2.2.2.2.1]; exact Nat.le_refl _)
              have hall := HL.out.1
              rw [ht] at hall ⊢
              have hO := HL.out.2.1
              have hrl := HI.out.2.2.2.2.1
              rw [hrl, ofA_next HI.out.1 (r' := [])] at hO
              have HO := Lib.hid (And.intro hO hall)
              cases hsm : r.any fun x => decide (0 < x) with
              | false =>
                have HNO : Hid (validM B V = false) := Lib.hid (invalid_row HI.out.1 (by unfold rowOk; rw [hsm, Bool.and_false, Bool.and_false]))
                clear hO hall ht hrl hsm
                go_wp2_with fail
                go_ret
                exact ⟨by rw [HNO.out]; rfl, HL.out.2.2.2⟩
              | true =>
                have HRO : Hid (rowOk rl (rowV V i) = true) := Lib.hid (by
                  rw [← HI.out.2.2.2.2.2]
                  unfold rowOk
                  rw [decide_eq_true hrl.symm, hall, hsm]; rfl)
                clear hO hall ht hrl hsm
                go_wp2_with fail
                go_roundw
                case rel =>
                  refine ⟨i + 1, by omega, by go_num, HO.out.1, fun j hj => ?_, HL.out.2.2.1, HL.out.2.2.2⟩
                  rcases Nat.lt_or_ge j i with h8 | h8
                  · exact HR.out.2.1 j h8
                  · rw [show j = i by omega]; exact ⟨HRO.out, HBD.out⟩
                case measure => simp [intOf]; omega
        · have HNO : Hid (validM B V = false) := Lib.hid (invalid_row HI.out.1 (by
            cases hro : rowOk (goodsN V) r with
            | false => rfl
            | true =>
              have := (rowOk_iff.1 hro).1
              rw [← HI.out.2.2.2.2.1, ← HKK.out] at this
              omega))
          go_wp2_with fail
          go_ret
          exact ⟨by rw [HNO.out]; rfl, HR.out.2.2.2⟩
      · obtain rfl : m = i := by omega
        have HT : Hid (V.take m = V) := Lib.hid (List.take_of_length_le (by rw [HVM.out.2.1]; exact Nat.le_refl _))
        have hwant : ∀ g, ofB V m [] 0 g = wanted V g := fun g => by
          unfold ofB wanted
          rw [HT.out]; simp
        have HWANT := Lib.hid hwant
        clear hwant
        go_wp2_with fail
        go_loopw [101] (fun gv wx => ∃ g : Nat, g ≤ k ∧ gv = .int .i64 g ∧ (∀ h, h < g → wanted V h = true) ∧ wx = wo) (fun gv _ => k - (intOf gv).toNat)
        case atStart => exact ⟨0, Nat.zero_le _, rfl, fun h hh => by omega, rfl⟩
        case round =>
          obtain ⟨g, hg, rfl, hw, rfl⟩ := hrel
          have HW := Lib.hid hw
          clear hw
          by_cases hgk : g < k
          · have o1 := (Blk.cell HR.out.1 g).trans (ofA_get (V := V) (i := m) (r := []) (g := 0) (h := g) (by omega))
            rw [HWANT.out] at o1
            have hgi : (g : Int) < 3 := by omega
            cases hwg : wanted V g with
            | false =>
              rw [hwg] at o1
              have HNO : Hid (validM B V = false) := Lib.hid (by
                cases hv : validM B V with
                | false => rfl
                | true =>
                  have := (validM_iff.1 hv).2.2.2 g (by rw [← HKK.out]; exact hgk)
                  rw [hwg] at this
                  cases this)
              clear hwg
              go_wp2_with fail
              go_ret
              exact ⟨by rw [HNO.out]; rfl, HR.out.2.2.2⟩
            | true =>
              rw [hwg] at o1
              have HG := Lib.hid hwg
              clear hwg
              go_wp2_with fail
              go_roundw
              case rel =>
                refine ⟨g + 1, by omega, by go_num, fun h hh => ?_, trivial⟩
                rcases Nat.lt_or_ge h g with h8 | h8
                · exact HW.out h h8
                · rw [show h = g by omega]; exact HG.out
              case measure => simp [intOf]; omega
          · obtain rfl : k = g := by omega
            have HYES : Hid (validM B V = true) := Lib.hid (by
              rw [validM_iff]
              refine ⟨⟨by rw [HVM.out.1]; omega, by rw [HVM.out.1]; omega, fun b hb => ?_, by rw [HVM.out.1, HVM.out.2.1]⟩, by rw [← HKK.out]; omega, fun r hr => ?_, fun g hg => HW.out g (by rw [HKK.out]; exact hg)⟩
              · obtain ⟨j, hj⟩ := List.getElem?_of_mem hb
                have hjl := (List.getElem?_eq_some_iff.1 hj).1
                have := (HR.out.2.1 j (by rw [← HVM.out.1]; exact hjl)).2
                rw [List.getD_eq_getElem?_getD, hj] at this
                unfold budOk at this
                simp only [Option.getD_some, Bool.and_eq_true, decide_eq_true_eq] at this
                exact this
              · obtain ⟨j, hj⟩ := List.getElem?_of_mem hr
                have hjl := (List.getElem?_eq_some_iff.1 hj).1
                have := (HR.out.2.1 j (by rw [← HVM.out.2.1]; exact hjl)).1
                rw [rowV_get hj] at this
                rw [← HKK.out]
                exact this)
            go_wp2_with fail
            go_ret
            exact ⟨by rw [HYES.out]; rfl, HR.out.2.2.2⟩
  · have HNO := Lib.hid (HLEN.out (by omega))
    go_wp2_with fail
    go_ret
    exact ⟨by rw [HNO.out]; rfl, H.out.2.1⟩

/- The step from a statement's walk to its row: the arguments opened, and read again behind the call. -/
open Go.ChangeShapes Go.WideShapes Go.ChangeAt Go.RowKit Go.WideMaps Go.WideElems

theorem t_own : ownKnob Try.prog.godebug = none := by kernel_rfl
theorem t_laidOut : laidOutB Try.prog = true := by kernel_rfl

section
variable {H : Type} {enc : TypeId × Value → H}

theorem post_of_below {P : Program} {f : Func} {s : ChangeSpec} {apart fresh handsOn again : Bool} {W W' : World} {args : Array Value} {v : Value} {ds gs : List (DataW H)} {before pa pv : List MemPlace}
    (hW : DataW.Whole enc P f.params.toList s.vars apart W args.toList ds gs before)
    (hres : ∀ (b : Nat) (sp : Nat → Bool) (hd : Bool), DataW.TrodAll enc P W' b sp hd f.resultTypes.toList (v.resultList f.resultTypes.size) (s.fn H (ds ++ gs)).results [])
    (hargs : ∀ sp : Nat → Bool, (∀ p ∈ before, sp p.block = true) → DataW.TrodAll enc P W' 0 sp true f.params.toList args.toList (s.fn H (ds ++ gs)).args pa)
    (hvars : ∀ sp : Nat → Bool, (∀ p ∈ before, sp p.block = true) → DataW.TrodVars enc P W' sp s.vars (s.fn H (ds ++ gs)).vars pv)
    (hps : before = pa ++ pv) (hb : Below W.heap.size W W')
    (hok : ∀ (j : Nat) (t : TypeId) (r : Value), f.resultTypes[j]? = some t → (v.resultList f.resultTypes.size)[j]? = some r → Value.okWide P W' .any 0 t r) :
    s.post enc P f apart fresh handsOn again W args v W' := by
  have hlt : ∀ p ∈ before, p.block < W.heap.size := fun p hp => hW.lt p hp
  have hold : ∀ p ∈ before, (fun b => decide (b < W.heap.size)) p.block = true := fun p hp => by simpa using hlt p hp
  refine ⟨ds, gs, before, [], pa, pv, hW, hres _ _ _, hargs _ hold, hvars _ hold, World.keptBut_mono (fun p hp => ⟨hp, ?_⟩) (hb.frame (· ∈ before)), fun _ => ?_⟩
  · rw [hps, List.mem_append] at hp
    exact Or.inr hp
  · obtain ⟨_, _, _, _, _, hz, hn⟩ := hW
    refine ⟨hok, _, _, ([] ++ pa) ++ pv, ⟨[] ++ pa, pv, trodAll_append (hargs _ (fun _ _ => rfl)) (hres _ _ _), hvars _ (fun _ _ => rfl), rfl, ?_, ?_⟩, ?_⟩
    · intro b off hp
      have hin : MemPlace.cell b off ∈ before := by rw [hps]; simpa using hp
      rw [hb.frozen (hlt _ hin)]
      exact hz b off hin
    · intro ha
      have := hn ha
      rw [hps] at this
      simpa using this
    · intro p hp _
      rw [hps]
      simpa using hp

/-- All arguments read behind the call as before it. -/
theorem trodAll_below {W W' : World} (hb : Below W.heap.size W W') (sp : Nat → Bool) : ∀ (ts : List TypeId) (vs : List Value) (ds : List (DataW H)) (ps : List MemPlace),
    (∀ t ∈ ts, Try.prog.readableRec t = true ∧ t < Try.prog.types.size) → (∀ x ∈ ps, x.block < W.heap.size) → (∀ x ∈ ps, sp x.block = true) →
    DataW.TrodAll enc Try.prog W 0 (fun _ => true) true ts vs ds ps → DataW.TrodAll enc Try.prog W' 0 sp true ts vs ds ps
  | [], [], [], _, _, _, _, h => h
  | t :: ts, v :: vs, d :: ds, ps, hr, hlt, hsp, h => by
    obtain ⟨p, q, h1, h2, rfl⟩ := h
    refine ⟨p, q, ?_, ?_, rfl⟩
    · exact WideElems.Trod_stays t_laidOut (hr t (by simp)).1 (hr t (by simp)).2 h1 (fun x hx => hb.same (hlt x (by simp [hx]))) (fun x hx => hsp x (by simp [hx]))
    · exact trodAll_below hb sp ts vs ds q (fun t' ht' => hr t' (by simp [ht'])) (fun x hx => hlt x (by simp [hx])) (fun x hx => hsp x (by simp [hx])) h2
  | [], [], _ :: _, _, _, _, _, h => h.elim
  | [], _ :: _, _, _, _, _, _, h => h.elim
  | _ :: _, [], _, _, _, _, _, h => h.elim
  | _ :: _, _ :: _, [], _, _, _, _, h => h.elim

/-- A slice of ints among the arguments, opened. -/
theorem open_intsI {W : World} {v : Value} {d : DataW H} {p : List MemPlace} {spare : Nat → Bool} {b : Nat} (h : DataW.Trod enc Try.prog W b spare true 22 v d p)
    (hv : ∃ a len cap, v = .slice a len cap) :
    ∃ A n cap xs, v = .slice A n cap ∧ xs.length = n ∧ n ≤ cap ∧ cap ≤ 9223372036854775807 ∧ Ints W A xs ∧ ∀ x ∈ xs, -9223372036854775808 ≤ x ∧ x ≤ 9223372036854775807 := by
  obtain ⟨a0, len, cap, rfl⟩ := hv
  obtain ⟨fuel, hf⟩ := h
  rcases open_ints Try.underlying22 Try.underlying3 (by kernel_rfl) hf with ⟨hcs, _⟩ | ⟨a, len', cap', zs, hcs, _, hl, hm, hz, _, hcell, hwz⟩
  · have e : Value.slice a0 len cap = .slice none 0 0 := by simpa [Value.cells] using hcs
    rw [e]
    exact ⟨none, 0, 0, [], rfl, rfl, by omega, by omega, Ints.nil, by simp⟩
  · have e : Value.slice a0 len cap = .slice (some a) len' cap' := by simpa [Value.cells] using hcs
    rw [e]
    have hzl : len' ≤ zs.length := by rw [hz]; split <;> omega
    refine ⟨some a, len', cap', zs.take len', rfl, by rw [List.length_take]; omega, hl, by unfold maxLen at hm; omega, ?_, ?_⟩
    · refine Ints.mk_ fun i x hx => ?_
      have hi : i < len' := by
        have := (List.getElem?_eq_some_iff.1 hx).1; rw [List.length_take] at this; omega
      rw [List.getElem?_take_of_lt hi] at hx
      have := hcell i (by omega)
      rwa [List.getD_eq_getElem?_getD, hx] at this
    · intro x hx
      have := hwz x (List.mem_of_mem_take hx)
      simp [Lit.wf, IntKind.min, IntKind.max, IntKind.signed, IntKind.bits] at this
      omega
end

/- A market among a statement's arguments, opened. -/
open Go.ChangeShapes Go.WideShapes Go.ChangeAt Go.RowKit Go.Deep

theorem choose_lt {α : Type} [Inhabited α] {n : Nat} {P : Nat → α → Prop} (h : ∀ i, i < n → ∃ x, P i x) : ∃ f : Nat → α, ∀ i, i < n → P i (f i) := by
  classical
  refine ⟨fun i => if hi : i < n then Classical.choose (h i hi) else default, fun i hi => ?_⟩
  show P i (if hi : i < n then Classical.choose (h i hi) else default)
  rw [dif_pos hi]
  exact Classical.choose_spec (h i hi)
def OkInts (l : List Int) : Prop := ∀ x ∈ l, -9223372036854775808 ≤ x ∧ x ≤ 9223372036854775807
section
variable {H : Type} {enc : TypeId × Value → H}
theorem list_ints {W : World} {v : Value} {x : DataW H × List MemPlace} {spare : Nat → Bool} {b fuel : Nat} (h : DataW.trod enc Try.prog W b spare true fuel 22 [v] = some x) :
    ∃ A cap, ∃ xs : List Int, v = .slice A xs.length cap ∧ xs.length ≤ cap ∧ cap ≤ 9223372036854775807 ∧ Ints W A xs ∧ OkInts xs := by
  rcases open_ints Try.underlying22 Try.underlying3 (by kernel_rfl) h with ⟨hcs, _⟩ | ⟨a2, len2, cap2, zs, hcs, _, hl2, hm2, hz, _, hcell, hwz⟩
  · have e2 : v = .slice none 0 0 := by simpa using hcs
    exact ⟨none, 0, [], e2, Nat.le_refl _, by omega, Ints.nil, by intro x hx; simp at hx⟩
  · have e2 : v = .slice (some a2) len2 cap2 := by simpa using hcs
    have hzl : len2 ≤ zs.length := by rw [hz]; split <;> omega
    have hlen : (zs.take len2).length = len2 := by rw [List.length_take]; omega
    refine ⟨some a2, cap2, zs.take len2, by rw [hlen]; exact e2, by rw [hlen]; exact hl2, by unfold maxLen at hm2; omega, ?_, ?_⟩
    · refine Ints.mk_ fun k x hx => ?_
      have hk : k < len2 := by
        have := (List.getElem?_eq_some_iff.1 hx).1; rw [List.length_take] at this; omega
      rw [List.getElem?_take_of_lt hk] at hx
      have := hcell k (by omega)
      rwa [List.getD_eq_getElem?_getD, hx] at this
    · intro x hx
      have := hwz x (List.mem_of_mem_take hx)
      simp [Lit.wf, IntKind.min, IntKind.max, IntKind.signed, IntKind.bits] at this
      omega
theorem list_intss {W : World} {v : Value} {x : DataW H × List MemPlace} {spare : Nat → Bool} {b fuel : Nat} (h : DataW.trod enc Try.prog W b spare true fuel 23 [v] = some x) :
    ∃ A cap, ∃ V : List (List Int), v = .slice A V.length cap ∧ V.length ≤ cap ∧ cap ≤ 9223372036854775807 ∧ Mat W A V ∧ ∀ r ∈ V, OkInts r := by
  rcases open_slice1 Try.underlying23 (by kernel_rfl) h with ⟨hcs, _⟩ | ⟨a, len', cap', m, n, Vv, D, Pl, hcs, _, hl, hm, hmm, _, hall⟩
  · have e : v = .slice none 0 0 := by simpa using hcs
    exact ⟨none, 0, [], e, Nat.le_refl _, by omega, Mat.nil, by simp⟩
  · have e : v = .slice (some a) len' cap' := by simpa using hcs
    have hlm : len' ≤ m := by rw [hmm]; split <;> omega
    have hint : ∀ i, i < len' → ∃ r : List Int, (∃ A' c, W.cell? (a.add i) = some (.slice A' r.length c) ∧ r.length ≤ c ∧ c ≤ 9223372036854775807 ∧ Ints W A' r) ∧ OkInts r := by
      intro i hi
      obtain ⟨hc, ht⟩ := hall i (by omega)
      obtain ⟨A', c, xs, e2, h1, h2, h3, h4⟩ := list_ints ht
      rw [e2] at hc
      exact ⟨xs, ⟨A', c, hc, h1, h2, h3⟩, h4⟩
    obtain ⟨f, hf⟩ := choose_lt hint
    refine ⟨some a, cap', (List.range len').map f, by simpa using e, by simpa using hl, by unfold maxLen at hm; omega, ?_, ?_⟩
    · intro i r hr
      have hi : i < len' := by have := (List.getElem?_eq_some_iff.1 hr).1; simpa using this
      have hg : ((List.range len').map f)[i]? = some (f i) := by simp [hi]
      rw [hg] at hr
      injection hr with hr
      subst hr
      obtain ⟨⟨A', c, h1, h2, h3, h4⟩, _⟩ := hf i hi
      exact ⟨a, A', c, rfl, h1, h2, h3, h4⟩
    · intro r hr
      obtain ⟨i, hi, rfl⟩ := List.mem_map.1 hr
      exact (hf i (List.mem_range.1 hi)).2
/-- A market among the arguments. -/
structure MktArg (w : World) (A : Option Addr) (n c : Nat) (U : Option Addr) (m d : Nat) (B : List Int) (V : List (List Int)) : Prop where
  mkt : MktAt w A n U m B V
  hc : n ≤ c ∧ c ≤ 9223372036854775807
  hd : m ≤ d ∧ d ≤ 9223372036854775807
  hr : ∀ r ∈ V, r.length ≤ 9223372036854775807
  ib : OkInts B
  iv : ∀ r ∈ V, OkInts r
set_option maxRecDepth 100000 in
theorem open_mktI {W : World} {v : Value} {d : DataW H} {p : List MemPlace} {spare : Nat → Bool} {b b0 : Nat} {r : Reach} (h : DataW.Trod enc Try.prog W b spare true 25 v d p) (hv : Value.okWide Try.prog W r b0 25 v) :
    ∃ A n c U m d' B V, v = mktV A n c U m d' ∧ MktArg W A n c U m d' B V := by
  obtain ⟨cs, rfl, hsz⟩ := okWide_struct Try.underlying25 hv
  rw [show Try.prog.cellsOf 25 = 2 by kernel_rfl] at hsz
  obtain ⟨l⟩ := cs
  match l, hsz with
  | [v0, v1], _ =>
    obtain ⟨fuel, hf⟩ := h
    obtain ⟨y0, y1, k, _, _, h0, h1⟩ := trod_struct2 Try.underlying25 hf
    have g0 : DataW.trod enc Try.prog W b spare true k 22 [v0] = some y0 := h0
    have g1 : DataW.trod enc Try.prog W b spare true k 23 [v1] = some y1 := h1
    obtain ⟨A, c, B, rfl, a1, a2, a3, a4⟩ := list_ints g0
    obtain ⟨U, d', V, rfl, b1, b2, b3, b4⟩ := list_intss g1
    refine ⟨A, B.length, c, U, V.length, d', B, V, rfl, ⟨rfl, rfl, a3, b3⟩, ⟨a1, a2⟩, ⟨b1, b2⟩, fun r hr => ?_, a4, b4⟩
    obtain ⟨j, hj⟩ := List.getElem?_of_mem hr
    obtain ⟨_, _, c', _, _, h3, h4, _⟩ := b3 j r hj
    omega
end

/- Fractions, and rows of fractions among a statement's arguments, opened. -/
open Go.ChangeShapes Go.WideShapes Go.ChangeAt Go.RowKit Go.Deep

section
variable {H : Type} {enc : TypeId × Value → H}
theorem list_fracs {W : World} {v : Value} {x : DataW H × List MemPlace} {spare : Nat → Bool} {b fuel : Nat} (h : DataW.trod enc Try.prog W b spare true fuel 26 [v] = some x) :
    ∃ A cap, ∃ ps : List (Int × Int), v = .slice A ps.length cap ∧ ps.length ≤ cap ∧ cap ≤ 9223372036854775807 ∧ Prs W A ps ∧ I64s ps := by
  rcases open_slice_pairs Try.underlying26 Try.underlying37 (by kernel_rfl) rfl rfl (by kernel_rfl) (by kernel_rfl) h with ⟨hcs, _⟩ | ⟨a, len', cap', m, n, V0, V1, D0, D1, P0, P1, hcs, _, hl, hm, hmm, _, hall⟩
  · have e : v = .slice none 0 0 := by simpa using hcs
    exact ⟨none, 0, [], e, Nat.le_refl _, by omega, At.nil, by intro p hp; simp at hp⟩
  · have e : v = .slice (some a) len' cap' := by simpa using hcs
    have hlm : len' ≤ m := by rw [hmm]; split <;> omega
    have hint : ∀ i, i < len' → ∃ q : Int × Int, W.cell? (a.add (i * 2)) = some (.int .i64 q.1) ∧ W.cell? (a.add (i * 2 + 1)) = some (.int .i64 q.2) ∧ (-9223372036854775808 ≤ q.1 ∧ q.1 ≤ 9223372036854775807) ∧ -9223372036854775808 ≤ q.2 ∧ q.2 ≤ 9223372036854775807 := by
      intro i hi
      obtain ⟨h1, h2, h3, h4⟩ := hall i (by omega)
      obtain ⟨x, hx, _, hwx⟩ := DataW.trod_int Try.underlying3 h3
      obtain ⟨y, hy, _, hwy⟩ := DataW.trod_int Try.underlying3 h4
      simp only [List.cons.injEq, and_true] at hx hy
      rw [hx] at h1
      rw [hy] at h2
      refine ⟨(x, y), h1, h2, ?_, ?_⟩
      · simp [Lit.wf, IntKind.min, IntKind.max, IntKind.signed, IntKind.bits] at hwx
        simp only; omega
      · simp [Lit.wf, IntKind.min, IntKind.max, IntKind.signed, IntKind.bits] at hwy
        simp only; omega
    obtain ⟨f, hf⟩ := choose_lt hint
    refine ⟨some a, cap', (List.range len').map f, by simpa using e, by simpa using hl, by unfold maxLen at hm; omega, ?_, ?_⟩
    · intro i u hu
      refine ⟨a, rfl, ?_⟩
      have hlt : i < ((List.range len').map f).length * 2 := by
        have := (List.getElem?_eq_some_iff.1 hu).1
        rwa [pcells_length] at this
      simp only [List.length_map, List.length_range] at hlt
      have hk : i / 2 < len' := by omega
      have hg : ((List.range len').map f)[i / 2]? = some (f (i / 2)) := by simp [hk]
      obtain ⟨h1, h2⟩ := pcells_at _ _ _ hg
      obtain ⟨g1, g2, _⟩ := hf (i / 2) hk
      by_cases hpar : i % 2 = 0
      · have : i / 2 * 2 = i := by omega
        rw [this] at h1 g1
        rw [h1] at hu
        injection hu with hu
        rw [g1, hu]
      · have : i / 2 * 2 + 1 = i := by omega
        rw [this] at h2 g2
        rw [h2] at hu
        injection hu with hu
        rw [g2, hu]
    · intro q hq
      obtain ⟨i, hi, rfl⟩ := List.mem_map.1 hq
      rw [List.mem_range] at hi
      exact (hf i hi).2.2
theorem list_fracss {W : World} {v : Value} {x : DataW H × List MemPlace} {spare : Nat → Bool} {b fuel : Nat} (h : DataW.trod enc Try.prog W b spare true fuel 43 [v] = some x) :
    ∃ A cap, ∃ L : List (List (Int × Int)), v = .slice A L.length cap ∧ L.length ≤ cap ∧ cap ≤ 9223372036854775807 ∧ CMat W A L ∧ ∀ r ∈ L, I64s r := by
  rcases open_slice1 Try.underlying43 (by kernel_rfl) h with ⟨hcs, _⟩ | ⟨a, len', cap', m, n, Vv, D, Pl, hcs, _, hl, hm, hmm, _, hall⟩
  · have e : v = .slice none 0 0 := by simpa using hcs
    exact ⟨none, 0, [], e, Nat.le_refl _, by omega, (fun j r h => by simp at h), by simp⟩
  · have e : v = .slice (some a) len' cap' := by simpa using hcs
    have hlm : len' ≤ m := by rw [hmm]; split <;> omega
    have hint : ∀ i, i < len' → ∃ r : List (Int × Int), (∃ A' c, W.cell? (a.add i) = some (.slice A' r.length c) ∧ r.length ≤ c ∧ c ≤ 9223372036854775807 ∧ Prs W A' r) ∧ I64s r := by
      intro i hi
      obtain ⟨hc, ht⟩ := hall i (by omega)
      obtain ⟨A', c, xs, e2, h1, h2, h3, h4⟩ := list_fracs ht
      rw [e2] at hc
      exact ⟨xs, ⟨A', c, hc, h1, h2, h3⟩, h4⟩
    obtain ⟨f, hf⟩ := choose_lt hint
    refine ⟨some a, cap', (List.range len').map f, by simpa using e, by simpa using hl, by unfold maxLen at hm; omega, ?_, ?_⟩
    · intro i r hr
      have hi : i < len' := by have := (List.getElem?_eq_some_iff.1 hr).1; simpa using this
      have hg : ((List.range len').map f)[i]? = some (f i) := by simp [hi]
      rw [hg] at hr
      injection hr with hr
      subst hr
      obtain ⟨⟨A', c, h1, h2, h3, h4⟩, _⟩ := hf i hi
      exact ⟨a, A', c, rfl, h1, h2, h3, h4⟩
    · intro r hr
      obtain ⟨i, hi, rfl⟩ := List.mem_map.1 hr
      exact (hf i (List.mem_range.1 hi)).2
theorem open_fracs4 {W : World} {v : Value} {d : DataW H} {p : List MemPlace} {spare : Nat → Bool} {b : Nat} (h : DataW.Trod enc Try.prog W b spare true 26 v d p) (hv : ∃ a len cap, v = .slice a len cap) :
    ∃ A cap, ∃ ps : List (Int × Int), v = .slice A ps.length cap ∧ ps.length ≤ cap ∧ cap ≤ 9223372036854775807 ∧ Prs W A ps ∧ I64s ps := by
  obtain ⟨a0, len, cap, rfl⟩ := hv
  obtain ⟨fuel, hf⟩ := h
  exact list_fracs hf
theorem open_fracss4 {W : World} {v : Value} {d : DataW H} {p : List MemPlace} {spare : Nat → Bool} {b : Nat} (h : DataW.Trod enc Try.prog W b spare true 43 v d p) (hv : ∃ a len cap, v = .slice a len cap) :
    ∃ A cap, ∃ L : List (List (Int × Int)), v = .slice A L.length cap ∧ L.length ≤ cap ∧ cap ≤ 9223372036854775807 ∧ CMat W A L ∧ ∀ r ∈ L, I64s r := by
  obtain ⟨a0, len, cap, rfl⟩ := hv
  obtain ⟨fuel, hf⟩ := h
  exact list_fracss hf
end

/- The functions of package market, called with what Of has made. -/

theorem take_of_le {α : Type} {l : List α} (h : (l.take 6).length ≤ 3) : l.take 6 = l := by
  rw [List.length_take] at h
  exact List.take_of_length_le (by omega)
theorem of_same {B : List Int} {V : List (List Int)} (h : validM (B.take 6) (ofV V) = true ∨ validM B V = true) : B.take 6 = B ∧ ofV V = V := by
  rcases h with h | h
  · obtain ⟨⟨a1, a2, a3, a4⟩, b1, b2, b3⟩ := validM_iff.1 h
    refine ⟨take_of_le a2, ?_⟩
    have hl : (V.take 6).length ≤ 3 := by
      have : (ofV V).length = (V.take 6).length := by simp [ofV]
      omega
    have hV := take_of_le hl
    unfold ofV at b2 ⊢
    rw [hV] at b2 ⊢
    conv => rhs; rw [← List.map_id V]
    refine List.map_congr_left fun r hr => ?_
    have h1 := (rowOk_iff.1 (b2 (r.take 6) (List.mem_map.2 ⟨r, hr, rfl⟩))).1
    have h2 : goodsN (V.map (·.take 6)) ≤ 3 := by
      have := b1.2
      unfold ofV at this
      rwa [hV] at this
    exact take_of_le (by rw [h1]; exact h2)
  · obtain ⟨⟨a1, a2, a3, a4⟩, b1, b2, b3⟩ := validM_iff.1 h
    refine ⟨List.take_of_length_le (by omega), ?_⟩
    unfold ofV
    rw [List.take_of_length_le (l := V) (by omega)]
    conv => rhs; rw [← List.map_id V]
    refine List.map_congr_left fun r hr => ?_
    have h1 := (rowOk_iff.1 (b2 r hr)).1
    exact List.take_of_length_le (by omega)
theorem valid_of (B : List Int) (V : List (List Int)) : validM (B.take 6) (ofV V) = validM B V := by
  cases h : validM (B.take 6) (ofV V) with
  | true =>
    obtain ⟨e1, e2⟩ := of_same (.inl h)
    rw [e1, e2] at h
    exact h.symm
  | false =>
    cases h2 : validM B V with
    | false => rfl
    | true =>
      obtain ⟨e1, e2⟩ := of_same (.inr h2)
      rw [e1, e2, h2] at h
      cases h
theorem prF_of (B : List Int) (V : List (List Int)) : prF (B.take 6) (ofV V) = prF B V := by
  unfold prF
  rw [valid_of]
  by_cases h : validM B V = true
  · obtain ⟨e1, e2⟩ := of_same (.inr h)
    rw [e1, e2]
  · rw [if_neg h, if_neg h]
theorem wantF_of (B : List Int) (V : List (List Int)) (ps : List (Int × Int)) : wantF (B.take 6) (ofV V) ps = wantF B V ps := by
  unfold wantF
  rw [valid_of]
  by_cases h : validM B V = true
  · obtain ⟨e1, e2⟩ := of_same (.inr h)
    rw [e1, e2]
  · rw [show validM B V = false by simpa using h]
    rfl
section
variable {w w2 : World} {A U : Option Addr} {n c q d b5 : Nat} {vs : List Value} {B : List Int} {V : List (List Int)}
theorem OfMem.sizes (h : OfMem w w2 A n c U q d b5 vs B V) : n ≤ 6 ∧ q ≤ 6 := by
  have := h.ln
  have := h.lq
  rw [List.length_take] at *
  rw [ofV_length] at *
  omega
theorem of_prices (h : OfMem w w2 A n c U q d b5 vs B V) : Calls Try.prog 14 #[.agg #[.slice A n c, .slice U q d]] w2 (PricesPost B V w2) := by
  have h1 := mprices_any A n c U q d (B.take 6) (ofV V) w2 h.mkt (by have := h.sizes; omega) (by have := h.sizes; omega) (ofV_rows V) (found_any _ _)
  unfold PricesPost at h1 ⊢
  rw [prF_of] at h1
  exact h1
theorem of_spend (h : OfMem w w2 A n c U q d b5 vs B V) : Calls Try.prog 23 #[.agg #[.slice A n c, .slice U q d]] w2 (SpendPost B V w2) := by
  have h1 := mspend_any A n c U q d (B.take 6) (ofV V) w2 h.mkt (by have := h.sizes; omega) (by have := h.sizes; omega) (ofV_rows V) (found_any _ _)
  unfold SpendPost at h1 ⊢
  rw [prF_of] at h1
  exact h1
theorem of_worth (h : OfMem w w2 A n c U q d b5 vs B V) : Calls Try.prog 27 #[.agg #[.slice A n c, .slice U q d]] w2 (WorthPost B V w2) := by
  have h1 := mworth_any A n c U q d (B.take 6) (ofV V) w2 h.mkt (by have := h.sizes; omega) (by have := h.sizes; omega) (ofV_rows V) (found_any _ _)
  unfold WorthPost at h1 ⊢
  rw [prF_of] at h1
  refine h1.mono fun e w' ⟨h2, h3⟩ => ⟨h2, ?_⟩
  cases hp : prF B V with
  | none => rw [hp] at h3; exact h3
  | some r =>
    rw [hp] at h3
    obtain ⟨e1, e2⟩ := of_same (.inr (prF_ok hp).1)
    rw [e1, e2] at h3
    exact h3
theorem of_want (h : OfMem w w2 A n c U q d b5 vs B V) {w3 : World} (hb : Below w2.heap.size w2 w3) (P : Option Addr) (lp cp : Nat) (ps : List (Int × Int)) (hP : Prs w3 P ps) (hl : ps.length = lp) (hl2 : lp ≤ 1000) (hi : I64s ps) : Calls Try.prog 32 #[.agg #[.slice A n c, .slice U q d], .slice P lp cp] w3 (WantPost B V ps w3) := by
  have h1 := mwant_any A n c U q d P lp cp (B.take 6) (ofV V) ps w3 (h.mkt.below hb) (by have := h.sizes; omega) (by have := h.sizes; omega) (ofV_rows V) hP hl hl2 hi
  unfold WantPost at h1 ⊢
  rw [wantF_of] at h1
  exact h1
theorem of_check (h : OfMem w w2 A n c U q d b5 vs B V) {w3 : World} (hb : Below w2.heap.size w2 w3) (P : Option Addr) (lp cp : Nat) (ps : List (Int × Int)) (S : Option Addr) (ls cs : Nat) (L : List (List (Int × Int))) (hP : Prs w3 P ps) (hl : ps.length = lp) (hl2 : lp ≤ 1000) (hi : I64s ps)
    (hS : PMat w3 S L) (hls : L.length = ls) (hls2 : ls ≤ 1000) (hsi : ∀ r ∈ L, I64s r) (hsl : ∀ r ∈ L, r.length ≤ 1000) :
    Calls Try.prog 36 #[.agg #[.slice A n c, .slice U q d], .slice P lp cp, .slice S ls cs] w3 (CheckPost B V ps L w3) := by
  have h1 := mcheck_any A n c U q d P lp cp S ls cs (B.take 6) (ofV V) ps L w3 (h.mkt.below hb) (by have := h.sizes; omega) (by have := h.sizes; omega) (ofV_rows V) hP hl hl2 hi hS hls hls2 hsi hsl
  refine h1.mono fun e w' ⟨h2, h3⟩ => ⟨h2, ?_⟩
  rw [h3, valid_of]
  by_cases hv : validM B V = true
  · obtain ⟨e1, e2⟩ := of_same (.inr hv)
    rw [e1, e2]
  · rw [if_neg hv, if_neg hv]
end
/-- The boxed market, and all that was there before. -/
def Ch (W w : World) (mk : Array Value) : Prop := Blk w W.heap.size 25 mk ∧ Below W.heap.size W w
theorem Ch.start (W : World) (A : Option Addr) (n c : Nat) (U : Option Addr) (m d : Nat) : Ch W (W.alloc (.cells #[.slice A n c, .slice U m d] 25)) #[.slice A n c, .slice U m d] := ⟨Blk.new _ _ _ rfl, (Below.refl _ _).alloc (Nat.le_refl _) _⟩
theorem Ch.next {W w w' : World} {mk : Array Value} (h : Ch W w mk) (hb : Below w.heap.size w w') : Ch W w' mk := ⟨h.1.below hb h.1.lt, h.2.trans (hb.mono h.2.size)⟩
theorem OfMem.below' {w w2 : World} {A U : Option Addr} {n c q d b5 : Nat} {vs : List Value} {B : List Int} {V : List (List Int)} (h : OfMem w w2 A n c U q d b5 vs B V) : Below w.heap.size w w2 := h.below
/-- The boxed market: its reading. -/
theorem MktArg.below {w w' : World} {A U : Option Addr} {n c m d : Nat} {B : List Int} {V : List (List Int)} (h : MktArg w A n c U m d B V) (hb : Below w.heap.size w w') : MktArg w' A n c U m d B V := { h with mkt := h.mkt.below hb }
theorem MktArg.of {w : World} {A U : Option Addr} {n c m d : Nat} {B : List Int} {V : List (List Int)} (h : MktArg w A n c U m d B V) :
    Calls Try.prog 15 #[.agg #[.slice A n c, .slice U m d]] w fun e w' => ∃ A' n' c' U' q d' b5 vs, e = .returned (.agg #[.slice A' n' c', .slice U' q d']) ∧ OfMem w w' A' n' c' U' q d' b5 vs B V :=
  l4of_any A n c U m d B V w h.mkt h.hc.1 h.hc.2 (by have := h.hd; omega)
theorem MktArg.valid {w : World} {A U : Option Addr} {n c m d : Nat} {B : List Int} {V : List (List Int)} (h : MktArg w A n c U m d B V) :
    Calls Try.prog 16 #[.agg #[.slice A n c, .slice U m d]] w fun e w' => e = .returned (.bool (validM B V)) ∧ Below w.heap.size w w' :=
  r4valid_any A n c U m d B V w h.mkt (by have := h.hc; omega) (by have := h.hd; omega) h.hr

/- MarketBest: the walk. -/

theorem prices_okF {r : List Rat} (h : ∀ q ∈ r, PrS q) : (r.map pr).all (okF 1) = true := by
  rw [List.all_eq_true]
  intro x hx
  obtain ⟨q, hq, rfl⟩ := List.mem_map.1 hx
  obtain ⟨a1, a2, a3⟩ := h q hq
  have hd := den_pos q
  exact okF_iff.2 ⟨a1, by omega, by omega, by omega, rat_lowest q⟩
theorem toQ_of_pr (r : List Rat) : toQ (r.map pr) = r := by
  unfold toQ
  rw [List.map_map]
  conv => rhs; rw [← List.map_id r]
  refine List.map_congr_left fun q _ => ?_
  exact Rat.num_divInt_den q
theorem prices_i64 {r : List Rat} (h : ∀ q ∈ r, PrS q) : I64s (r.map pr) := by
  intro x hx
  obtain ⟨q, hq, rfl⟩ := List.mem_map.1 hx
  obtain ⟨a1, a2, a3⟩ := h q hq
  have hd := den_pos q
  simp only [pr]
  omega
theorem want_prices {B : List Int} {V : List (List Int)} {r : List Rat × List (List Rat)} (h : prF B V = some r) : wantF B V (r.1.map pr) = some ((List.range B.length).map fun i => wantS (rowV V i) r.1) := by
  obtain ⟨hv, hs⟩ := prF_ok h
  unfold wantF prsOk
  rw [hv, prices_okF hs.ps, List.length_map, decide_eq_true hs.lp, toQ_of_pr]
  rfl
/-- All that is wanted by the first i. -/
def orW (V : List (List Int)) (p : List Rat) : Nat → Nat
  | 0 => 0
  | i + 1 => orW V p i ||| wantS (rowV V i) p
theorem orW_bit (V : List (List Int)) (p : List Rat) (n g : Nat) : (orW V p n).testBit g = true ↔ ∃ i, i < n ∧ (wantS (rowV V i) p).testBit g = true := by
  induction n with
  | zero => simp [orW]
  | succ n ih =>
    simp only [orW, Nat.testBit_or, Bool.or_eq_true, ih]
    constructor
    · rintro (⟨i, h1, h2⟩ | h)
      · exact ⟨i, by omega, h2⟩
      · exact ⟨n, by omega, h⟩
    · rintro ⟨i, h1, h2⟩
      rcases Nat.lt_or_ge i n with h3 | h3
      · exact .inl ⟨i, h3, h2⟩
      · exact .inr (by rw [show n = i by omega]; exact h2)
section
variable {B : List Int} {V : List (List Int)} {r : List Rat × List (List Rat)}
theorem want_lt (h : prF B V = some r) {i : Nat} (hi : i < B.length) : wantS (rowV V i) r.1 < 2 ^ goodsN V := by
  obtain ⟨hv, hs⟩ := prF_ok h
  obtain ⟨_, h2, _⟩ := mkOk_of hv
  have := wTo_lt (rowV V i) r.1 (rowV V i).length
  rw [h2 i hi] at this
  unfold wantS
  rw [h2 i hi]
  exact this
theorem orW_lt (h : prF B V = some r) : ∀ i, i ≤ B.length → orW V r.1 i < 2 ^ goodsN V
  | 0, _ => Nat.two_pow_pos _
  | i + 1, hi => Nat.or_lt_two_pow (orW_lt h i (by omega)) (want_lt h (by omega))
theorem spent_bit (h : prF B V = some r) {i g : Nat} (hi : i < B.length) (hg : g < goodsN V) (hs : 0 < (spd r.2 i g).num) : (wantS (rowV V i) r.1).testBit g = true := by
  obtain ⟨hv, hso⟩ := prF_ok h
  obtain ⟨_, h2, h3⟩ := mkOk_of hv
  have hE := hso.equi hv
  have hpos : ∀ q ∈ r.1, 0 < q := fun q hq => (hso.ps q hq).ok.pos
  refine (want_iff hso.lp hpos (h2 i hi) (fun g => (h3 i g).1) hg).2 (hE.want i g hi hg fun h0 => ?_)
  rw [h0] at hs
  exact absurd hs (by decide)
theorem orW_all (h : prF B V = some r) : orW V r.1 B.length = 2 ^ goodsN V - 1 := by
  obtain ⟨hv, hso⟩ := prF_ok h
  have hE := hso.equi hv
  apply Nat.eq_of_testBit_eq
  intro g
  rw [Nat.testBit_two_pow_sub_one]
  by_cases hg : g < goodsN V
  · rw [decide_eq_true hg, orW_bit]
    have hex : ∃ i, i < B.length ∧ 0 < spd r.2 i g := by
      by_cases hx : ∃ i, i < B.length ∧ 0 < spd r.2 i g
      · exact hx
      · exfalso
        have h1 := hE.col g hg
        rw [sumQ_zero fun i hi => by
          have h2 := hE.nn i g hi hg
          by_cases h3 : 0 < spd r.2 i g
          · exact absurd ⟨i, hi, h3⟩ hx
          · grind] at h1
        have := hE.pos g hg
        grind
    obtain ⟨i, hi, h0⟩ := hex
    refine ⟨i, hi, spent_bit h hi hg ?_⟩
    have h1 := Rat.num_nonneg.2 (Rat.le_of_lt h0)
    have h2 : (spd r.2 i g).num ≠ 0 := fun h3 => by
      have := Rat.num_eq_zero.1 h3
      grind
    omega
  · rw [decide_eq_false hg]
    exact Nat.testBit_lt_two_pow (Nat.lt_of_lt_of_le (orW_lt h B.length (Nat.le_refl _)) (Nat.pow_le_pow_right (by omega) (by omega)))
end
set_option maxRecDepth 100000 in
set_option maxHeartbeats 4000000 in
theorem law_mbest (A : Option Addr) (n c : Nat) (U : Option Addr) (m d : Nat) (B : List Int) (V : List (List Int)) (W : World) (hK : MktArg W A n c U m d B V) :
    Calls Try.prog 12 #[mktV A n c U m d] W fun e w' => e = .returned (.bool true) ∧ Below W.heap.size W w' := by
  have hC1 := Ch.start W A n c U m d
  obtain ⟨w1, hw1⟩ : ∃ w1, w1 = W.alloc (.cells #[.slice A n c, .slice U m d] 25) := ⟨_, rfl⟩
  rw [← hw1] at hC1
  have HK := Lib.hid hK
  have HC1 := Lib.hid hC1
  obtain ⟨m1, m2, _, _⟩ := hC1.1.at2
  clear hK hC1
  unfold mktV
  go_enter Try.func12, Try.ntmps12
  go_wp2_with fail
  rw [← hw1]
  clear hw1
  refine ((HK.out.below HC1.out.2).of).mono ?_
  rintro e w2 ⟨A2, n2, c2, U2, q2, d2, b2, vs2, rfl, hO2⟩
  have HC2 := Lib.hid (HC1.out.next hO2.below)
  have HO2 := Lib.hid hO2
  clear hO2 m1 m2
  go_wp2_with fail
  refine (of_prices HO2.out).mono ?_
  intro ev w3 hpost
  unfold PricesPost at hpost
  obtain ⟨hb3, hpost⟩ := hpost
  have HC3 := Lib.hid (HC2.out.next hb3)
  clear hb3
  obtain ⟨m1, m2, _, _⟩ := HC3.out.1.at2
  cases hp : prF B V with
  | none =>
    rw [hp] at hpost
    subst hpost
    have HP := Lib.hid hp
    clear hp
    go_wp2_with fail
    refine ((HK.out.below HC3.out.2).of).mono ?_
    rintro e w4 ⟨A4, n4, c4, U4, q4, d4, b4, vs4, rfl, hO4⟩
    have HC4 := Lib.hid (HC3.out.next hO4.below)
    have HO4 := Lib.hid hO4
    clear hO4 m1 m2
    go_wp2_with fail
    refine (of_spend HO4.out).mono ?_
    intro ev w5 hpost
    unfold SpendPost at hpost
    rw [HP.out] at hpost
    obtain ⟨hb5, rfl⟩ := hpost
    have HC5 := Lib.hid (HC4.out.next hb5)
    clear hb5
    go_wp2_with fail
    refine (l4awake_any _).mono ?_
    rintro e w6 ⟨rfl, hb6⟩
    have HC6 := Lib.hid (HC5.out.next hb6)
    clear hb6
    go_wp2_with fail
    go_ret
    exact ⟨rfl, HC6.out.2⟩
  | some r =>
    rw [hp] at hpost
    obtain ⟨PA, pc, rfl, hown3⟩ := hpost
    have hpr := prF_ok hp
    have hpl := hpr.2.lp
    have hg3 := (validM_iff.1 hpr.1).2.1
    have hn3 := (validM_iff.1 hpr.1).1
    obtain ⟨k, hk⟩ : ∃ k, k = goodsN V := ⟨_, rfl⟩
    rw [← hk] at hg3 hpl
    have hfr3 := Fracs.of_cells (At.of_own hown3)
    have HP := Lib.hid (And.intro hp (And.intro hpr (And.intro hpl (And.intro hk hn3))))
    have HF3 := Lib.hid hfr3
    rw [hpl]
    clear hp hpr hpl hk hown3 hfr3 hn3
    go_wp2_with fail
    refine ((HK.out.below HC3.out.2).of).mono ?_
    rintro e w4 ⟨A4, n4, c4, U4, q4, d4, b4, vs4, rfl, hO4⟩
    have HC4 := Lib.hid (HC3.out.next hO4.below)
    have HO4 := Lib.hid hO4
    have HF4 := Lib.hid (HF3.out.below hO4.below')
    clear hO4 m1 m2
    go_wp2_with fail
    refine (of_spend HO4.out).mono ?_
    intro ev w5 hpost
    unfold SpendPost at hpost
    rw [HP.out.1] at hpost
    obtain ⟨hb5, SA, sc, rfl, hm5⟩ := hpost
    have HC5 := Lib.hid (HC4.out.next hb5)
    have HF5 := Lib.hid (And.intro (HF4.out.below hb5) hm5)
    obtain ⟨sl, hsl⟩ : ∃ sl, sl = r.2.length := ⟨_, rfl⟩
    rw [← hsl]
    have HSL := Lib.hid (And.intro hsl (hsl.trans HP.out.2.1.2.ls))
    obtain ⟨m1, m2, _, _⟩ := HC5.out.1.at2
    clear hb5 hm5 hsl
    go_wp2_with fail
    refine ((HK.out.below HC5.out.2).of).mono ?_
    rintro e w6 ⟨A6, n6, c6, U6, q6, d6, b6, vs6, rfl, hO6⟩
    have HC6 := Lib.hid (HC5.out.next hO6.below)
    have HO6 := Lib.hid hO6
    have HF6 := Lib.hid (And.intro (HF5.out.1.below hO6.below') (HF5.out.2.below hO6.below'))
    clear hO6 m1 m2
    have HWA : Hid (Calls Try.prog 32 #[.agg #[.slice A6 n6 c6, .slice U6 q6 d6], .slice PA k pc] w6 (WantPost B V (r.1.map pr) w6)) := Lib.hid (of_want HO6.out (Below.refl _ _) PA k pc (r.1.map pr) HF6.out.1 (by rw [List.length_map]; exact HP.out.2.2.1) (by omega) (prices_i64 HP.out.2.1.2.ps))
    go_wp2_with fail
    refine HWA.out.mono ?_
    intro ev w7 hpost
    unfold WantPost at hpost
    rw [want_prices HP.out.1] at hpost
    obtain ⟨hb7, WA, wc', rfl, hat7⟩ := hpost
    have HC7 := Lib.hid (HC6.out.next hb7)
    have HF7 := Lib.hid (And.intro (HF6.out.1.below hb7) (And.intro (HF6.out.2.below hb7) hat7))
    have hnB := HK.out.mkt.hB
    obtain ⟨m1, m2, _, _⟩ := HC7.out.1.at2
    have e1 : ((List.range B.length).map fun i => wantS (rowV V i) r.1).length = n := by rw [List.length_map, List.length_range]; exact hnB
    rw [e1]
    have hsn : sl = n := HSL.out.2.trans hnB
    subst hsn
    have hsl3 : sl ≤ 3 := by have := HP.out.2.2.2.2; omega
    clear hb7 hat7 e1 HWA
    go_wp2_with fail
    clear m1 m2
    go_loopw [9, 67] (fun av iv wx => ∃ i : Nat, i ≤ sl ∧ iv = .int .i64 i ∧ av = .int .i64 ((orW V r.1 i : Nat) : Int) ∧ Below w7.heap.size w7 wx) (fun _ iv _ => sl - (intOf iv).toNat)
    case atStart => exact ⟨0, Nat.zero_le _, rfl, rfl, Below.refl _ _⟩
    case round =>
      obtain ⟨i, hi, rfl, rfl, hbl⟩ := hrel
      obtain ⟨wo, rfl⟩ : ∃ wo : World, wo = wr := ⟨_, rfl⟩
      have HR := Lib.hid hbl
      clear hbl
      by_cases hin : i < sl
      · obtain ⟨x, hx⟩ : ∃ x, r.2[i]? = some x := ⟨_, List.getElem?_eq_getElem (by rw [← HSL.out.1]; exact hin)⟩
        obtain ⟨aS, A8, c8, hA, hc, hF⟩ := HF7.out.2.1 i x hx
        subst hA
        have hxl := HP.out.2.1.2.lr x (List.mem_of_getElem? hx)
        rw [← HP.out.2.2.2.1] at hxl
        have c1 := (HR.out.cell (lt_of_cell hc)).trans hc
        rw [hxl] at c1
        obtain ⟨ws, hws⟩ : ∃ ws, ws = wantS (rowV V i) r.1 := ⟨_, rfl⟩
        have hiB : i < B.length := by rw [hnB]; exact hin
        have hwg : ((List.range B.length).map fun i => wantS (rowV V i) r.1).map (fun (s : Nat) => Value.int .i64 (s : Int)) = ((List.range B.length).map fun i => Value.int .i64 ((wantS (rowV V i) r.1 : Nat) : Int)) := by rw [List.map_map]; rfl
        have hat := HF7.out.2.2
        rw [hwg] at hat
        obtain ⟨aW, hWA, hcW⟩ := hat i (.int .i64 ((wantS (rowV V i) r.1 : Nat) : Int)) (by rw [List.getElem?_map, List.getElem?_range hiB]; rfl)
        rw [← hws] at hcW
        subst hWA
        have c2' := (HR.out.cell (lt_of_cell hcW)).trans hcW
        have hwl := want_lt HP.out.1 hiB
        rw [← hws, ← HP.out.2.2.2.1] at hwl
        have hol := orW_lt HP.out.1 i (by omega)
        rw [← HP.out.2.2.2.1] at hol
        have h8 : (2 : Nat) ^ k ≤ 8 := by
          have : k = 1 ∨ k = 2 ∨ k = 3 := by omega
          rcases this with rfl | rfl | rfl <;> decide
        have hor := or_nat (orW V r.1 i) ws (by omega) (by omega)
        have hnx : orW V r.1 (i + 1) = orW V r.1 i ||| ws := by rw [hws]; rfl
        have hsx : ∀ g, spd r.2 i g = x.getD g 0 := fun g => by unfold spd rowQ; rw [List.getD_eq_getElem?_getD (l := r.2), hx]; rfl
        have HX := Lib.hid (And.intro hxl (And.intro hF (And.intro hsx (And.intro hws hnx))))
        obtain ⟨st, hst⟩ : ∃ s, s = orW V r.1 i := ⟨_, rfl⟩
        rw [← hst] at hor HX hol ⊢
        clear hx hc hF hxl hwg hat hcW hsx hws hnx hst
        go_wp2_with fail
        go_loopw [74] (fun gv wx => ∃ g : Nat, g ≤ k ∧ gv = .int .i64 g ∧ Below wo.heap.size wo wx) (fun gv _ => k - (intOf gv).toNat)
        case atStart => exact ⟨0, Nat.zero_le _, rfl, Below.refl _ _⟩
        case round =>
          obtain ⟨g, hg, rfl, hbg⟩ := hrel
          obtain ⟨wg, rfl⟩ : ∃ wg : World, wg = wr := ⟨_, rfl⟩
          have HG := Lib.hid hbg
          have hwo7 := HR.out.size
          clear hbg
          by_cases hgk : g < k
          · obtain ⟨q, hq⟩ : ∃ q, x[g]? = some q := ⟨_, List.getElem?_eq_getElem (by rw [HX.out.1]; exact hgk)⟩
            have hb7g := HR.out.trans (HG.out.mono hwo7)
            obtain ⟨a8, hA8, _, hc8⟩ := (HX.out.2.1.below hb7g).some_ (by rw [HX.out.1]; omega)
            subst hA8
            obtain ⟨v1, v2⟩ := hc8 g q hq
            have hsq : spd r.2 i g = q := by rw [HX.out.2.2.1, List.getD_eq_getElem?_getD, hq]; rfl
            have c3 := (HG.out.cell (lt_of_cell c2')).trans c2'
            have hbit : 0 < q.num → ws.testBit g = true := fun h0 => by
              rw [HX.out.2.2.2.1]
              exact spent_bit HP.out.1 hiB (by rw [← HP.out.2.2.2.1]; exact hgk) (by rw [hsq]; exact h0)
            have HBIT := Lib.hid hbit
            have hbt := and_shr ws g (by omega)
            have hbz : Below wg.heap.size wg (wg.alloc (.cells #[.int .i64 q.num, .int .i64 (q.den : Int)] 37)) := (Below.refl _ _).alloc (Nat.le_refl _) _
            have HZ := Lib.hid (HG.out.trans (hbz.mono HG.out.size))
            have c4 := (hbz.cell (lt_of_cell c3)).trans c3
            clear hq hb7g hc8 hsq hbit hbz
            by_cases h0 : 0 < q.num
            · rw [HBIT.out h0] at hbt
              have hbt0 : (bits .and .i64 ((ws : Int) / 2 ^ g) 1 == 0) = false := by rw [hbt]; rfl
              have hbt2 : bits .and .i64 ((ws : Int) / 2 ^ g) 1 = 1 := hbt
              clear hbt
              go_wp2_with fail
              go_roundw
              case rel => exact ⟨g + 1, by omega, by go_num, HZ.out⟩
              case measure => simp [intOf]; omega
            · clear hbt
              go_wp2_with fail
              go_roundw
              case rel => exact ⟨g + 1, by omega, by go_num, HZ.out⟩
              case measure => simp [intOf]; omega
          · obtain rfl : k = g := by omega
            have c3 := (HG.out.cell (lt_of_cell c2')).trans c2'
            go_wp2_with fail
            go_roundw
            case rel => exact ⟨i + 1, by omega, by go_num, by rw [HX.out.2.2.2.2], HR.out.trans (HG.out.mono HR.out.size)⟩
            case measure => simp [intOf]; omega
      · obtain rfl : sl = i := by omega
        have hall := orW_all HP.out.1
        rw [hnB, ← HP.out.2.2.2.1] at hall
        rw [hall]
        have HC8 := Lib.hid (HC7.out.next HR.out)
        have hk123 : k = 1 ∨ k = 2 ∨ k = 3 := by omega
        clear hall
        rcases hk123 with rfl | rfl | rfl
        all_goals
          go_wp2_with fail
          refine (l4awake_any _).mono ?_
          rintro e w9 ⟨rfl, hb9⟩
          have HC9 := Lib.hid (HC8.out.next hb9)
          clear hb9
          go_wp2_with fail
          go_ret
          exact ⟨rfl, HC9.out.2⟩

/- Contracts: Prices and Spendings of the reference. -/

theorem okF_low {least a b : Int} (h0 : 0 ≤ least) : okF least (a, b) = (lowB a b && (decide (least ≤ a) && (decide (a ≤ 1048576) && decide (b ≤ 1048576)))) := by
  rw [Bool.eq_iff_iff, okF_iff]
  unfold lowB
  simp only [Bool.and_eq_true, decide_eq_true_eq, beq_iff_eq]
  constructor
  · rintro ⟨h1, h2, h3, h4, h5⟩; exact ⟨⟨⟨h3, by omega⟩, by omega⟩, h1, h2, h4⟩
  · rintro ⟨⟨⟨h1, h2⟩, h3⟩, h4, h5, h6⟩; exact ⟨h4, h5, h1, h6, by omega⟩
set_option maxRecDepth 100000 in
set_option maxHeartbeats 1600000 in
theorem r4prices_any (A : Option Addr) (n c : Nat) (U : Option Addr) (m d : Nat) (P : Option Addr) (cp : Nat) (B : List Int) (V : List (List Int)) (ps : List (Int × Int)) (w : World) (h : MktAt w A n U m B V) (hm : 1 ≤ m) (hP : Prs w P ps) (hl : ps.length ≤ 9223372036854775807) (hi : I64s ps) :
    Calls Try.prog 29 #[.agg #[.slice A n c, .slice U m d], .slice P ps.length cp] w fun e w' => e = .returned (.bool (prsOk V ps)) ∧ Below w.heap.size w w' := by
  have hb1 : Below w.heap.size w (w.alloc (.cells #[.slice A n c, .slice U m d] 25)) := (Below.refl _ _).alloc (Nat.le_refl _) _
  have hM1 : Blk (w.alloc (.cells #[.slice A n c, .slice U m d] 25)) w.heap.size 25 #[.slice A n c, .slice U m d] := Blk.new _ _ _ rfl
  obtain ⟨aU, rfl, _, hcU⟩ := h.uses.some_ (by rw [h.hV]; omega)
  obtain ⟨R0, c0, hc0, _⟩ := hcU 0 _ (rowV_some (by rw [h.hV]; omega))
  have e0 : aU.add 0 = aU := by simp [Addr.add]
  have hk : (rowV V 0).length = goodsN V := rfl
  rw [e0, hk] at hc0
  obtain ⟨l, hll⟩ : ∃ l, l = ps.length := ⟨_, rfl⟩
  rw [← hll] at hl ⊢
  have H := Lib.hid (And.intro hP (And.intro hi (And.intro hb1 (And.intro hM1 (And.intro hc0 hll)))))
  clear h hP hi hb1 hM1 hcU hc0 hll e0 hk
  go_enter Try.func29, Try.ntmps29
  go_wp2_with fail
  go_loopw [9] (fun iv wx => ∃ k : Nat, k ≤ l ∧ iv = .int .i64 k ∧ (ps.take k).all (okF 1) = true ∧ Blk wx w.heap.size 25 #[.slice A n c, .slice (some aU) m d] ∧ Below w.heap.size w wx) (fun iv _ => l - (intOf iv).toNat)
  case atStart => exact ⟨0, Nat.zero_le _, rfl, by simp, H.out.2.2.2.1, H.out.2.2.1⟩
  case round =>
    obtain ⟨k, hk, rfl, hall, hmk, hbl⟩ := hrel
    obtain ⟨wo, rfl⟩ : ∃ wo : World, wo = wr := ⟨_, rfl⟩
    have HR := Lib.hid (And.intro hall (And.intro hmk hbl))
    have hml := hmk.lt
    clear hall hmk hbl
    by_cases hlt : k < l
    · obtain ⟨aP, rfl, _, hcP⟩ := H.out.1.some_ (by rw [← H.out.2.2.2.2.2]; omega)
      obtain ⟨⟨a, b⟩, hp⟩ : ∃ p, ps[k]? = some p := ⟨_, List.getElem?_eq_getElem (by rw [← H.out.2.2.2.2.2]; exact hlt)⟩
      obtain ⟨g1, g2⟩ := hcP k _ hp
      obtain ⟨ra, rb⟩ := H.out.2.1 _ (List.mem_of_getElem? hp)
      have c0 := (HR.out.2.2.cell (lt_of_cell g1)).trans g1
      have c1 := (HR.out.2.2.cell (lt_of_cell g2)).trans g2
      simp only at c0 c1 ra rb
      have hbz : Below wo.heap.size wo (wo.alloc (.cells #[.int .i64 a, .int .i64 b] 37)) := (Below.refl _ _).alloc (Nat.le_refl _) _
      have HX := Lib.hid (And.intro hp hbz)
      have HLW := Lib.hid fun w' => rlowest_any a b w' ra.1 ra.2 rb.2
      clear hp g1 g2 hcP hbz
      go_wp2_with fail
      refine (HLW.out _).mono ?_
      rintro e w2 ⟨rfl, hb2⟩
      have hX2 : Blk w2 wo.heap.size 37 #[.int .i64 a, .int .i64 b] := (Blk.new _ _ _ rfl).below hb2 (by simp)
      have hbo2 := HX.out.2.trans (hb2.mono HX.out.2.size)
      have H2 := Lib.hid (And.intro (HR.out.2.1.below hbo2 hml) (HR.out.2.2.trans (hbo2.mono HR.out.2.2.size)))
      obtain ⟨x0, x1, _, _⟩ := hX2.at2
      have hok := okF_low (least := 1) (a := a) (b := b) (by decide)
      have HNO : okF 1 (a, b) = false → Hid (prsOk V ps = false) := fun h => Lib.hid (by
        unfold prsOk
        rw [all_bad HX.out.1 h, Bool.false_and])
      have HOK := Lib.hid (And.intro hok HNO)
      clear hX2 hbo2 hb2 c0 c1 HLW hok HNO
      cases hlow : lowB a b with
      | false =>
        have HN := HOK.out.2 (by rw [HOK.out.1, hlow]; rfl)
        clear hlow
        go_wp2_with fail
        go_ret
        exact ⟨by rw [HN.out]; rfl, H2.out.2⟩
      | true =>
        have HL := Lib.hid hlow
        clear hlow
        by_cases h1 : a < 1
        · have HN := HOK.out.2 (by rw [HOK.out.1, decide_eq_false (show ¬ 1 ≤ a by omega)]; simp)
          go_wp2_with fail
          go_ret
          exact ⟨by rw [HN.out]; rfl, H2.out.2⟩
        by_cases h2 : 1048576 < a
        · have HN := HOK.out.2 (by rw [HOK.out.1, decide_eq_false (show ¬ a ≤ 1048576 by omega)]; simp)
          go_wp2_with fail
          go_ret
          exact ⟨by rw [HN.out]; rfl, H2.out.2⟩
        by_cases h3 : 1048576 < b
        · have HN := HOK.out.2 (by rw [HOK.out.1, decide_eq_false (show ¬ b ≤ 1048576 by omega)]; simp)
          go_wp2_with fail
          go_ret
          exact ⟨by rw [HN.out]; rfl, H2.out.2⟩
        have HY : Hid (okF 1 (a, b) = true) := Lib.hid (by rw [HOK.out.1, HL.out, decide_eq_true (show 1 ≤ a by omega), decide_eq_true (show a ≤ 1048576 by omega), decide_eq_true (show b ≤ 1048576 by omega)]; rfl)
        go_wp2_with fail
        go_roundw
        case rel => exact ⟨k + 1, by omega, by go_num, all_take_s HX.out.1 HR.out.1 HY.out, H2.out.1, H2.out.2⟩
        case measure => simp [intOf]; omega
    · obtain rfl : l = k := by omega
      obtain ⟨m1, m2, _, _⟩ := HR.out.2.1.at2
      have c0 := (HR.out.2.2.cell (lt_of_cell H.out.2.2.2.2.1)).trans H.out.2.2.2.2.1
      have hall := HR.out.1
      rw [List.take_of_length_le (by rw [← H.out.2.2.2.2.2]; exact Nat.le_refl _)] at hall
      have hres : prsOk V ps = decide ((l : Int) = (goodsN V : Int)) := by
        unfold prsOk
        rw [hall, ← H.out.2.2.2.2.2, Bool.true_and, decide_eq_decide]
        omega
      have HRES := Lib.hid hres
      clear hall hres
      obtain ⟨kk, hkk⟩ : ∃ kk, kk = goodsN V := ⟨_, rfl⟩
      rw [← hkk] at c0 HRES
      clear hkk
      go_wp2_with fail
      go_ret
      refine ⟨?_, HR.out.2.2⟩
      rw [HRES.out]
      rfl

/- Contract: Want of the reference. -/

/-- The set, of the first g goods. -/
def refTo (V : List (List Int)) (P : List Rat) (i : Nat) : Nat → Nat
  | 0 => 0
  | g + 1 => if (wantS (rowV V i) P).testBit g then refTo V P i g ||| 2 ^ g else refTo V P i g
theorem refTo_lt (V : List (List Int)) (P : List Rat) (i : Nat) : ∀ g, refTo V P i g < 2 ^ g
  | 0 => by simp [refTo]
  | g + 1 => by
    have h1 := refTo_lt V P i g
    have h2 : (2 : Nat) ^ g < 2 ^ (g + 1) := Nat.pow_lt_pow_right (by omega) (by omega)
    simp only [refTo]
    split
    · exact Nat.or_lt_two_pow (by omega) h2
    · omega
theorem refTo_bit (V : List (List Int)) (P : List Rat) (i : Nat) : ∀ g h, (refTo V P i g).testBit h = (decide (h < g) && (wantS (rowV V i) P).testBit h)
  | 0, h => by simp [refTo]
  | g + 1, h => by
    have ih := refTo_bit V P i g h
    simp only [refTo]
    rcases Nat.lt_trichotomy h g with h1 | h1 | h1
    · have e : decide (h < g + 1) = decide (h < g) := by rw [decide_eq_decide]; omega
      split
      · rw [Nat.testBit_or, ih, e, testBit_pow, decide_eq_false (show ¬ g = h by omega), Bool.or_false]
      · rw [ih, e]
    · subst h1
      split
      · rename_i hb
        rw [Nat.testBit_or, testBit_pow, hb]
        simp
      · rename_i hb
        rw [ih]
        simp [hb]
    · have e : decide (h < g + 1) = decide (h < g) := by rw [decide_eq_decide]; omega
      split
      · rw [Nat.testBit_or, ih, e, testBit_pow, decide_eq_false (show ¬ g = h by omega), Bool.or_false]
      · rw [ih, e]
theorem refTo_all {V : List (List Int)} {P : List Rat} {i k : Nat} (h : (rowV V i).length = k) : refTo V P i k = wantS (rowV V i) P := by
  apply Nat.eq_of_testBit_eq
  intro g
  rw [refTo_bit]
  by_cases hg : g < k
  · rw [decide_eq_true hg, Bool.true_and]
  · rw [decide_eq_false hg, Bool.false_and]
    have := wTo_lt (rowV V i) P (rowV V i).length
    rw [h] at this
    unfold wantS
    rw [h]
    exact (Nat.testBit_lt_two_pow (Nat.lt_of_lt_of_le this (Nat.pow_le_pow_right (by omega) (by omega)))).symm
/-- Best so far, against the first h goods. -/
def bestTo (V : List (List Int)) (P : List Rat) (i g : Nat) : Nat → Bool
  | 0 => true
  | h + 1 => bestTo V P i g h && !decide (useQ V i g * priQ P h < useQ V i h * priQ P g)
theorem bestTo_iff (V : List (List Int)) (P : List Rat) (i g : Nat) : ∀ k, bestTo V P i g k = true ↔ ∀ h, h < k → useQ V i h * priQ P g ≤ useQ V i g * priQ P h
  | 0 => by simp [bestTo]
  | k + 1 => by
    have ih := bestTo_iff V P i g k
    simp only [bestTo, Bool.and_eq_true, ih, Bool.not_eq_true', decide_eq_false_iff_not]
    constructor
    · rintro ⟨h1, h2⟩ h hh
      rcases Nat.lt_or_ge h k with h3 | h3
      · exact h1 h h3
      · rw [show h = k by omega]; grind
    · intro h1
      refine ⟨fun h hh => h1 h (by omega), ?_⟩
      have := h1 k (by omega)
      grind
theorem best_bit {V : List (List Int)} {P : List Rat} {i g k : Nat} (hp : P.length = k) (hpos : ∀ q ∈ P, 0 < q) (hr : (rowV V i).length = k) (hu : ∀ g, 0 ≤ useN V i g) (hg : g < k) : bestTo V P i g k = (wantS (rowV V i) P).testBit g := by
  rw [Bool.eq_iff_iff, bestTo_iff, want_iff hp hpos hr hu hg]
/-- A product of a use and a price. -/
def MulOk (a : Int) (q x : Rat) : Prop := (0 ≤ a ∧ a ≤ 20) ∧ PrOk q ∧ x = (a : Rat) * q
theorem rmul_use (a : Int) (q x : Rat) (w : World) (h : MulOk a q x) : Calls Try.prog 19 #[.agg #[.int .i64 a, .int .i64 1], .agg #[.int .i64 q.num, .int .i64 (q.den : Int)]] w fun e w' => e = .returned (.agg #[.int .i64 x.num, .int .i64 (x.den : Int)]) ∧ Below w.heap.size w w' := by
  obtain ⟨ha, ⟨h1, h2, h3⟩, rfl⟩ := h
  have hd := den_pos q
  have hb : 0 ≤ a * q.num ∧ a * q.num ≤ 20 * 1048576 := ⟨Int.mul_nonneg ha.1 (by omega), Int.mul_le_mul ha.2 h2 (by omega) (by omega)⟩
  have := rmul_raw (a : Rat) q w (by rw [Rat.num_intCast]; omega) (by rw [Rat.num_intCast]; omega) (by rw [Rat.den_intCast]; show (1 : Int) * _ ≤ _; omega)
  unfold fr at this
  rw [Rat.num_intCast, Rat.den_intCast] at this
  exact this
theorem rof_use (a : Int) (w : World) (h : 0 ≤ a ∧ a ≤ 20) : Calls Try.prog 41 #[.int .i64 a, .int .i64 1] w fun e w' => e = .returned (.agg #[.int .i64 a, .int .i64 1]) ∧ Below w.heap.size w w' := by
  have := rof_any a 1 w (by omega) (by omega) (by decide) (by decide)
  have e : Rat.divInt a 1 = (a : Rat) := by
    rw [Rat.divInt_eq_div]
    have : ((1 : Int) : Rat) = 1 := rfl
    rw [this]
    grind
  rw [e, fr_int] at this
  exact this
theorem mul_size {a : Int} {q x : Rat} (h : MulOk a q x) : (0 ≤ x.num ∧ x.num ≤ 20971520) ∧ (x.den : Int) ≤ 1048576 := by
  obtain ⟨ha, ⟨h1, h2, h3⟩, rfl⟩ := h
  have hd := den_pos q
  have hb : 0 ≤ a * q.num ∧ a * q.num ≤ 20 * 1048576 := ⟨Int.mul_nonneg ha.1 (by omega), Int.mul_le_mul ha.2 h2 (by omega) (by omega)⟩
  have e : (a : Rat) * q = ((a * q.num : Int) : Rat) / ((q.den : Int) : Rat) := by
    rw [Rat.intCast_mul]
    have hx' := Rat.num_divInt_den q
    rw [Rat.divInt_eq_div] at hx'
    have a1 : ((q.den : Int) : Rat) ≠ 0 := rat_ne (by omega)
    generalize ((q.den : Int) : Rat) = xd at *
    generalize (q.num : Rat) = xn at *
    rw [← hx']
    grind
  have h4 := frac_bd (by omega) e
  have h5 := frac_nn (by omega) hb.1 e
  omega
theorem rless_use (x y : Rat) (w : World) (h1 : (0 ≤ x.num ∧ x.num ≤ 20971520) ∧ (x.den : Int) ≤ 1048576) (h2 : (0 ≤ y.num ∧ y.num ≤ 20971520) ∧ (y.den : Int) ≤ 1048576) : Calls Try.prog 22 #[.agg #[.int .i64 x.num, .int .i64 (x.den : Int)], .agg #[.int .i64 y.num, .int .i64 (y.den : Int)]] w fun e w' => e = .returned (.bool (decide (x < y))) ∧ Below w.heap.size w w' := by
  have hx := den_pos x
  have hy := den_pos y
  have a : 0 ≤ x.num * (y.den : Int) ∧ x.num * (y.den : Int) ≤ 20971520 * 1048576 := ⟨Int.mul_nonneg h1.1.1 (by omega), Int.mul_le_mul h1.1.2 h2.2 (by omega) (by omega)⟩
  have b : 0 ≤ y.num * (x.den : Int) ∧ y.num * (x.den : Int) ≤ 20971520 * 1048576 := ⟨Int.mul_nonneg h2.1.1 (by omega), Int.mul_le_mul h2.1.2 h1.2 (by omega) (by omega)⟩
  exact rless_any x y w (by omega) (by omega) (by omega) (by omega)
def wantV (V : List (List Int)) (P : List Rat) (m : Nat) : List Value := (List.range m).map fun i => Value.int .i64 ((wantS (rowV V i) P : Nat) : Int)
set_option maxRecDepth 100000 in
set_option maxHeartbeats 4000000 in
theorem r4want_any (A : Option Addr) (n c : Nat) (U : Option Addr) (d k cp : Nat) (Pa : Option Addr) (B : List Int) (V : List (List Int)) (P : List Rat) (w : World) (h : MkIn w A n U k B V) (hP : Fracs w Pa P) (hl : P.length = k) (hok : ∀ q ∈ P, PrOk q) :
    Calls Try.prog 35 #[.agg #[.slice A n c, .slice U n d], .slice Pa k cp] w fun e w' => ∃ A' c', e = .returned (.slice A' n c') ∧ At w' A' (wantV V P n) ∧ Below w.heap.size w w' := by
  obtain ⟨w1, hw1⟩ : ∃ w1, w1 = w.alloc (.cells #[.slice A n c, .slice U n d] 25) := ⟨_, rfl⟩
  have hb1 : Below w.heap.size w w1 := by rw [hw1]; exact (Below.refl _ _).alloc (Nat.le_refl _) _
  have hM1 : Blk w1 w.heap.size 25 #[.slice A n c, .slice U n d] := by rw [hw1]; exact Blk.new _ _ _ rfl
  obtain ⟨m1, m2, _, _⟩ := hM1.at2
  obtain ⟨aU, hAU, _, hcU⟩ := h.mkt.uses.some_ (by rw [h.mkt.hV]; have := h.hn; omega)
  obtain ⟨aP, hAP, _, hcP⟩ := hP.some_ (by rw [hl]; have := h.hk; omega)
  have hn := h.hn
  have hk := h.hk
  have H := Lib.hid (And.intro h (And.intro hb1 (And.intro hcU (And.intro hcP (And.intro hl hok)))))
  subst hAU
  subst hAP
  clear h hP hl hok hb1 hM1 hcU hcP
  go_enter Try.func35, Try.ntmps35
  go_wp2_with fail
  rw [← hw1]
  clear hw1 m1 m2
  go_loopw [5, 15] (fun ov iv wx => ∃ (i : Nat) (A2 : Option Addr) (c2 : Nat), i ≤ n ∧ iv = .int .i64 i ∧ ov = .slice A2 i c2 ∧ wx.ownsRow w.heap.size 3 1 (.slice A2 i c2) i ((wantV V P n).take i) ∧ Below w.heap.size w wx) (fun _ iv _ => n - (intOf iv).toNat)
  case atStart => exact ⟨0, none, 0, Nat.zero_le _, rfl, rfl, by simpa using World.ownsRow_nil _ _ _ _, H.out.2.1⟩
  case round =>
    obtain ⟨i, A2, c2, hi, rfl, rfl, hown, hbl⟩ := hrel
    obtain ⟨wo, rfl⟩ : ∃ wo : World, wo = wr := ⟨_, rfl⟩
    have hos := hbl.size
    have HR := Lib.hid (And.intro hown hbl)
    clear hown hbl
    by_cases hin : i < n
    · have hVb := rowV_some (V := V) (i := i) (by rw [H.out.1.mkt.hV]; exact hin)
      have hrl := (rowOk_iff.1 (H.out.1.rows _ (List.mem_of_getElem? hVb))).1
      obtain ⟨R, cr, u1, _, _, hR⟩ := H.out.2.2.1 i _ hVb
      rw [hrl] at u1
      obtain ⟨aR, hRe, _, hcR⟩ := hR.some_ (by rw [hrl]; omega)
      subst hRe
      have c1 := (HR.out.2.cell (lt_of_cell u1)).trans u1
      have HI := Lib.hid (And.intro hrl hcR)
      have HNX : Hid ((wantV V P n).take (i + 1) = (wantV V P n).take i ++ [Value.int .i64 ((wantS (rowV V i) P : Nat) : Int)]) := Lib.hid (by
        unfold wantV
        rw [List.take_add_one, List.getElem?_map, List.getElem?_range hin]; rfl)
      clear hVb hrl u1 hR hcR
      go_wp2_with fail
      go_loopw [21, 8] (fun gv sv wx => ∃ g : Nat, g ≤ k ∧ gv = .int .i64 g ∧ sv = .int .i64 ((refTo V P i g : Nat) : Int) ∧ Below wo.heap.size wo wx) (fun gv _ _ => k - (intOf gv).toNat)
      case atStart => exact ⟨0, Nat.zero_le _, rfl, rfl, Below.refl _ _⟩
      case round =>
        obtain ⟨g, hg, rfl, rfl, hbg⟩ := hrel
        obtain ⟨wg, rfl⟩ : ∃ wg : World, wg = wr := ⟨_, rfl⟩
        have HG := Lib.hid hbg
        clear hbg
        by_cases hgk : g < k
        · go_wp2_with fail
          go_loopw [26, 10] (fun hv bv wx => ∃ h : Nat, h ≤ k ∧ hv = .int .i64 h ∧ bv = .bool (bestTo V P i g h) ∧ Below wo.heap.size wo wx) (fun hv _ _ => k - (intOf hv).toNat)
          case atStart => exact ⟨0, Nat.zero_le _, rfl, rfl, HG.out⟩
          case round =>
            obtain ⟨h, hh, rfl, rfl, hbh⟩ := hrel
            obtain ⟨wh, rfl⟩ : ∃ wh : World, wh = wr := ⟨_, rfl⟩
            have HH := Lib.hid hbh
            clear hbh
            by_cases hhk : h < k
            · have hb0 := HR.out.2.trans (HH.out.mono hos)
              have hget : ∀ g, g < k → (rowV V i)[g]? = some (useN V i g) := fun g hg => by unfold useN; rw [List.getD_eq_getElem?_getD, List.getElem?_eq_getElem (by rw [HI.out.1]; exact hg)]; rfl
              have v1 := HI.out.2 g _ (hget g hgk)
              have v2 := HI.out.2 h _ (hget h hhk)
              obtain ⟨pg, hpg⟩ : ∃ q, P[g]? = some q := ⟨_, List.getElem?_eq_getElem (by rw [H.out.2.2.2.2.1]; exact hgk)⟩
              obtain ⟨ph, hph⟩ : ∃ q, P[h]? = some q := ⟨_, List.getElem?_eq_getElem (by rw [H.out.2.2.2.2.1]; exact hhk)⟩
              obtain ⟨v3, v4⟩ := H.out.2.2.2.1 g pg hpg
              obtain ⟨v5, v6⟩ := H.out.2.2.2.1 h ph hph
              have hug := useN_bd H.out.1.rows i g
              have huh := useN_bd H.out.1.rows i h
              have hpgo := H.out.2.2.2.2.2 pg (List.mem_of_getElem? hpg)
              have hpho := H.out.2.2.2.2.2 ph (List.mem_of_getElem? hph)
              have hqg : priQ P g = pg := by unfold priQ; rw [List.getD_eq_getElem?_getD, hpg]; rfl
              have hqh : priQ P h = ph := by unfold priQ; rw [List.getD_eq_getElem?_getD, hph]; rfl
              obtain ⟨ug, hu1⟩ : ∃ u, u = useN V i g := ⟨_, rfl⟩
              obtain ⟨uh, hu2⟩ : ∃ u, u = useN V i h := ⟨_, rfl⟩
              rw [← hu1] at v1 hug
              rw [← hu2] at v2 huh
              obtain ⟨X, hX⟩ : ∃ X, X = (ug : Rat) * ph := ⟨_, rfl⟩
              obtain ⟨Y, hY⟩ : ∃ Y, Y = (uh : Rat) * pg := ⟨_, rfl⟩
              have hMX : MulOk ug ph X := ⟨hug, hpho, hX⟩
              have hMY : MulOk uh pg Y := ⟨huh, hpgo, hY⟩
              have hbn : bestTo V P i g (h + 1) = (bestTo V P i g h && !decide (X < Y)) := by
                simp only [bestTo]
                rw [hqg, hqh, hX, hY, hu1, hu2]
                rfl
              have HBN := Lib.hid hbn
              have HMX := Lib.hid hMX
              have HMY := Lib.hid hMY
              have HU1 := Lib.hid hug
              have HU2 := Lib.hid huh
              have HLE := Lib.hid fun w' => rless_use X Y w' (mul_size hMX) (mul_size hMY)
              have d1 : ∀ s : Desc wh, s.val.cell? (aR.add g) = some (.int .i64 ug) := fun s => s.cell ((hb0.cell (lt_of_cell v1)).trans v1)
              have d2 : ∀ s : Desc wh, s.val.cell? (aR.add h) = some (.int .i64 uh) := fun s => s.cell ((hb0.cell (lt_of_cell v2)).trans v2)
              have d3 : ∀ s : Desc wh, s.val.cell? (aP.add (g * 2)) = some (.int .i64 pg.num) := fun s => s.cell ((hb0.cell (lt_of_cell v3)).trans v3)
              have d4 : ∀ s : Desc wh, s.val.cell? ⟨(aP.add (g * 2)).block, (aP.add (g * 2)).off + 1, none⟩ = some (.int .i64 (pg.den : Int)) := fun s => s.cell ((hb0.cell (lt_of_cell v4)).trans v4)
              have d5 : ∀ s : Desc wh, s.val.cell? (aP.add (h * 2)) = some (.int .i64 ph.num) := fun s => s.cell ((hb0.cell (lt_of_cell v5)).trans v5)
              have d6 : ∀ s : Desc wh, s.val.cell? ⟨(aP.add (h * 2)).block, (aP.add (h * 2)).off + 1, none⟩ = some (.int .i64 (ph.den : Int)) := fun s => s.cell ((hb0.cell (lt_of_cell v6)).trans v6)
              have HOF : Hid (∀ (s : Desc wh) (a : Int), (0 ≤ a ∧ a ≤ 20) → Calls Try.prog 41 #[.int .i64 a, .int .i64 1] s.val fun e w'' => e = .returned (.agg #[.int .i64 a, .int .i64 1]) ∧ ∃ s' : Desc wh, w'' = s'.val) := Lib.hid fun s a ha => Calls.desc_of (rof_use a s.val ha)
              have HMU : Hid (∀ (s : Desc wh) (a : Int) (q x : Rat), MulOk a q x → Calls Try.prog 19 #[.agg #[.int .i64 a, .int .i64 1], .agg #[.int .i64 q.num, .int .i64 (q.den : Int)]] s.val fun e w'' => e = .returned (.agg #[.int .i64 x.num, .int .i64 (x.den : Int)]) ∧ ∃ s' : Desc wh, w'' = s'.val) := Lib.hid fun s a q x hM => Calls.desc_of (rmul_use a q x s.val hM)
              have HLS : Hid (∀ s : Desc wh, Calls Try.prog 22 #[.agg #[.int .i64 X.num, .int .i64 (X.den : Int)], .agg #[.int .i64 Y.num, .int .i64 (Y.den : Int)]] s.val fun e w'' => e = .returned (.bool (decide (X < Y))) ∧ ∃ s' : Desc wh, w'' = s'.val) := Lib.hid fun s => Calls.desc_of (HLE.out s.val)
              clear hget v1 v2 v3 v4 v5 v6 hpg hph hqg hqh hu1 hu2 hX hY hMX hMY hbn hug huh hpgo hpho hb0 HLE
              obtain ⟨bs, hbs⟩ : ∃ b, b = bestTo V P i g h := ⟨_, rfl⟩
              rw [← hbs] at HBN ⊢
              obtain ⟨lt, hlt⟩ : ∃ b, b = decide (X < Y) := ⟨_, rfl⟩
              rw [← hlt] at HBN HLS
              clear hbs hlt
              go_upto_region 13 with fail
              go_cut [49] (fun cv wx => cv = .bool lt ∧ Below wh.heap.size wh wx)
              case first =>
                refine wp_region_desc (by kernel_rfl) (by kernel_rfl) ?_
                repeat (go_big_quiet_step (first | (go_at_call 41; exact HOF.out _ _ (by first | exact HU1.out | exact HU2.out)) | (go_at_call 19; first | exact HMU.out _ _ _ _ HMX.out | exact HMU.out _ _ _ _ HMY.out) | (go_at_call 22; exact HLS.out _)))
                refine wpQuiet_nil ?_
                rintro _ ⟨sd, rfl⟩
                have hb8 := sd.below
                generalize sd.val = w8 at hb8 ⊢
                clear d1 d2 d3 d4 d5 d6
                go_wp2_with fail
                go_meet
                case rel => exact ⟨rfl, hb8⟩
              obtain ⟨w8, rfl⟩ : ∃ w8 : World, w8 = wc := ⟨_, rfl⟩
              obtain ⟨rfl, hb8⟩ := hcut
              have HB8 := Lib.hid (HH.out.trans (hb8.mono HH.out.size))
              clear hb8 d1 d2 d3 d4 d5 d6
              cases lt with
              | true =>
                go_wp2_with fail
                go_roundw
                case rel => exact ⟨h + 1, by omega, by go_num, by rw [HBN.out]; simp, HB8.out⟩
                case measure => simp [intOf]; omega
              | false =>
                go_wp2_with fail
                go_roundw
                case rel => exact ⟨h + 1, by omega, by go_num, by rw [HBN.out]; simp, HB8.out⟩
                case measure => simp [intOf]; omega
            · obtain rfl : k = h := by omega
              have hbb := best_bit (V := V) (P := P) (i := i) (g := g) H.out.2.2.2.2.1 (fun q hq => (H.out.2.2.2.2.2 q hq).pos) HI.out.1 (fun g => (useN_bd H.out.1.rows i g).1) hgk
              have hlt2 := refTo_lt V P i g
              have h8 : (2 : Nat) ^ g ≤ 4 := by
                have : g = 0 ∨ g = 1 ∨ g = 2 := by omega
                rcases this with rfl | rfl | rfl <;> decide
              have ho := or_pow' (refTo V P i g) g (by omega) (by omega)
              have hnx : refTo V P i (g + 1) = if bestTo V P i g k then refTo V P i g ||| 2 ^ g else refTo V P i g := by rw [hbb]; rfl
              obtain ⟨bs, hbs⟩ : ∃ b, b = bestTo V P i g k := ⟨_, rfl⟩
              rw [← hbs] at hnx ⊢
              obtain ⟨st, hst⟩ : ∃ s, s = refTo V P i g := ⟨_, rfl⟩
              rw [← hst] at hnx ho hlt2 ⊢
              have HNX2 := Lib.hid hnx
              clear hbb hbs hnx hst
              cases bs with
              | true =>
                go_wp2_with fail
                go_roundw
                case rel => exact ⟨g + 1, by omega, by go_num, by rw [HNX2.out]; rfl, HH.out⟩
                case measure => simp [intOf]; omega
              | false =>
                clear ho
                go_wp2_with fail
                go_roundw
                case rel => exact ⟨g + 1, by omega, by go_num, by rw [HNX2.out]; rfl, HH.out⟩
                case measure => simp [intOf]; omega
        · obtain rfl : k = g := by omega
          have hra := refTo_all (V := V) (P := P) (i := i) HI.out.1
          rw [hra]
          obtain ⟨s, hs⟩ : ∃ s, s = wantS (rowV V i) P := ⟨_, rfl⟩
          rw [← hs] at HNX ⊢
          have H6 := Lib.hid (And.intro (own_below HR.out.1 HG.out) (HR.out.2.trans (HG.out.mono hos)))
          have hsz : w.heap.size ≤ wg.heap.size := H6.out.2.size
          clear hra hs
          go_wp2_with (at_builtin; refine app1g sty_ints9 rfl _ _ rfl w.heap.size A2 i c2 _ #[.int .i64 (s : Int)] rfl (by simp [Value.oneCell']) rfl H6.out.1 _ rfl (by simp) (by omega) hsz ?_)
          intro A5 k5 w7 hown7 _ hbl7 hk71 hk72
          have hown8 : w7.ownsRow w.heap.size 3 1 (.slice A5 (i + 1) k5) (i + 1) ((wantV V P n).take (i + 1)) := by rw [HNX.out]; exact hown7
          have H7 := Lib.hid (And.intro hown8 (H6.out.2.trans hbl7))
          clear hown7 hown8 hbl7
          go_wp2_with fail
          go_roundw
          case rel => exact ⟨i + 1, A5, k5, by omega, by go_num, rfl, H7.out.1, H7.out.2⟩
          case measure => simp [intOf]; omega
    · obtain rfl : n = i := by omega
      have hown := HR.out.1
      rw [List.take_of_length_le (by simp [wantV])] at hown
      have HO := Lib.hid hown
      clear hown
      go_wp2_with fail
      go_ret
      exact ⟨A2, c2, rfl, At.of_own HO.out, HR.out.2⟩
end Go.Proofs.Ytnljnjnmhbkdoaa
