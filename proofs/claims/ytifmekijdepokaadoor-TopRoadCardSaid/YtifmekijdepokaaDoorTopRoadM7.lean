/- Laws and contracts that the proof of TopRoad uses, part 7. -/
import Derived.Test.YtifmekijdepokaaDoorSValues
import Derived.Test.YtifmekijdepokaaDoorTopRoadM6
import Derived.Test.YtifmekijdepokaaDoorTopRoadM4
import Derived.Test.YtifmekijdepokaaDoorTopRoadM5
import Derived.Test.YtifmekijdepokaaDoorTopRoadM3
import Derived.Test.YtifmekijdepokaaDoorTopRoadM1
namespace Go.Proofs.YtifmekijdepokaaDoor
open Go.RowKit

/- Contracts: slices.Collect and Sorted over slices.Values. -/

theorem appendseq_any (Bs b cap n : Nat) (zs : List Int) (hzl : zs.length = n) (hlen : 1 ≤ n ∧ n ≤ 1000) (w : World) (hBs : Bs < w.heap.size)
    (hcs : w.cell? ⟨Bs, 0, none⟩ = some (.slice (some ⟨b, 0, none⟩) n cap)) (hb : b < w.heap.size) (hI : Ints w (some ⟨b, 0, none⟩) zs) :
    Calls Tryd.prog 68 #[.slice none 0 0, .func (.func 49) #[] #[.pointer (some ⟨Bs, 0, none⟩)]] w fun e W' => ∃ g c, e = .returned (.slice (some ⟨g, 0, none⟩) n c) ∧ W'.ownsRow w.heap.size 3 1 (.slice (some ⟨g, 0, none⟩) n c) n (zs.map (Value.int .i64)) ∧ Below w.heap.size w W' := by
  subst hzl
  refine (callsIn_wide (n := 3)).1 ((appendseq_in Fence.wide 3 trivial trivial rfl (Nat.le_refl _) Bs b cap zs hlen.2 w hBs hcs hb (fun j hj => ?_)).mono ?_)
  · obtain ⟨ad, had, hc⟩ := hI j (.int .i64 (zs[j]?.getD 0)) (by rw [List.getElem?_map, List.getElem?_eq_getElem hj]; rfl)
    injection had with had
    subst had
    have e : (⟨b, 0, none⟩ : Addr).add j = ⟨b, j, none⟩ := by cases j <;> simp [Addr.add]
    rwa [e] at hc
  · rintro e W' ⟨v, rfl, hown, _, hbl⟩
    obtain ⟨A', k', rfl, _, _, _⟩ := own_form hown
    obtain ⟨g, rfl, _, _⟩ := own_some hown hlen.1
    exact ⟨g, k', rfl, hown, hbl⟩

set_option maxHeartbeats 800000 in
theorem collect_any (Bs b cap n : Nat) (zs : List Int) (hzl : zs.length = n) (hlen : 1 ≤ n ∧ n ≤ 1000) (w : World) (hBs : Bs < w.heap.size)
    (hcs : w.cell? ⟨Bs, 0, none⟩ = some (.slice (some ⟨b, 0, none⟩) n cap)) (hb : b < w.heap.size) (hI : Ints w (some ⟨b, 0, none⟩) zs) :
    Calls Tryd.prog 48 #[.func (.func 49) #[] #[.pointer (some ⟨Bs, 0, none⟩)]] w fun e W' => ∃ g c, e = .returned (.slice (some ⟨g, 0, none⟩) n c) ∧ W'.ownsRow w.heap.size 3 1 (.slice (some ⟨g, 0, none⟩) n c) n (zs.map (Value.int .i64)) ∧ Below w.heap.size w W' := by
  have HC := Lib.hid (appendseq_any Bs b cap n zs hzl hlen w hBs hcs hb hI)
  clear hzl hcs hI
  go_enter Tryd.func48, Tryd.ntmps48
  go_wp2_with fail
  refine HC.out.mono ?_
  rintro e W ⟨g, c, rfl, hown, hbl⟩
  have HO := Lib.hid (And.intro hown hbl)
  clear hown hbl
  go_wp2_with fail
  go_ret
  exact ⟨g, c, rfl, HO.out⟩

set_option maxHeartbeats 800000 in
theorem sorted_any (Bs b cap n : Nat) (zs : List Int) (hzl : zs.length = n) (hlen : 1 ≤ n ∧ n ≤ 4) (w : World) (hBs : Bs < w.heap.size)
    (hcs : w.cell? ⟨Bs, 0, none⟩ = some (.slice (some ⟨b, 0, none⟩) n cap)) (hb : b < w.heap.size) (hI : Ints w (some ⟨b, 0, none⟩) zs) :
    Calls Tryd.prog 20 #[.func (.func 49) #[] #[.pointer (some ⟨Bs, 0, none⟩)]] w fun e W' => ∃ g c, e = .returned (.slice (some ⟨g, 0, none⟩) n c) ∧ W'.ownsRow w.heap.size 3 1 (.slice (some ⟨g, 0, none⟩) n c) n ((sortTo zs n).map (Value.int .i64)) ∧ Below w.heap.size w W' := by
  have HC := Lib.hid (collect_any Bs b cap n zs hzl ⟨hlen.1, by omega⟩ w hBs hcs hb hI)
  have HZ := Lib.hid hzl
  clear hzl hcs hI
  go_enter Tryd.func20, Tryd.ntmps20
  go_wp2_with fail
  refine HC.out.mono ?_
  rintro e W ⟨g, c, rfl, hown, hbl⟩
  have hpre : PreB W g n c zs ∧ w.heap.size ≤ g ∧ n ≤ c ∧ c ≤ maxLen := by
    rcases hown.2 with ⟨h0, _⟩ | ⟨g', cap', cur, hv, h1, h2, h3, h4, h5, h6⟩
    · cases h0
    · injection hv with e1 _ e3
      injection e1 with e1
      injection e1 with e1
      subst e1; subst e3
      exact ⟨⟨cur, h2, by rw [h5, Nat.mul_one], by rw [← h6, Nat.mul_one]⟩, h1, h3, h4⟩
  have HO := Lib.hid (And.intro hpre hbl)
  clear hown hbl hpre
  go_wp2_with fail
  refine (ssort_any g c n zs W HZ.out hlen HO.out.1.1).mono ?_
  rintro e w2 ⟨rfl, hp2, hk2⟩
  have H2 := Lib.hid (And.intro hp2 hk2)
  clear hp2 hk2
  go_wp2_with fail
  go_ret
  refine ⟨g, c, rfl, ?_, ?_⟩
  · obtain ⟨cur, hB, hs, ht⟩ := H2.out.1
    exact ⟨by rw [List.length_map, sortTo_length, HZ.out, Nat.mul_one], .inr ⟨g, c, cur, rfl, HO.out.1.2.1, hB, HO.out.1.2.2.1, HO.out.1.2.2.2, by rw [hs, Nat.mul_one], by rw [Nat.mul_one]; exact ht⟩⟩
  · have hsz := HO.out.2.size
    exact HO.out.2.trans (H2.out.2.mono (S' := []) hsz (fun x hx => by rw [List.mem_singleton.1 hx]; exact .inr HO.out.1.2.1)).below


/- Contract: Serial of package games. -/

/-- Serial, for every lengths. -/
def serA (l : List Int) : List Rat := if lenB l then serL l else []
theorem quo12 {m : Nat} (h : 1 ≤ m ∧ m ≤ 4) : (12 : Int).tdiv (m : Int) = 12 / (m : Int) ∧ 3 ≤ 12 / (m : Int) ∧ 12 / (m : Int) ≤ 12 := by
  have : m = 1 ∨ m = 2 ∨ m = 3 ∨ m = 4 := by omega
  rcases this with rfl | rfl | rfl | rfl <;> decide
theorem mul_small {a b m n : Int} (h1 : 0 ≤ a) (h2 : a ≤ m) (h3 : 0 ≤ b) (h4 : b ≤ n) (hm : 0 ≤ m) : 0 ≤ a * b ∧ a * b ≤ m * n :=
  ⟨Int.mul_nonneg h1 h3, Int.mul_le_mul h2 h4 h3 hm⟩
set_option maxRecDepth 100000 in
set_option maxHeartbeats 4000000 in
theorem gserial_ok (g n cap : Nat) (l : List Int) (w : World) (hl : l.length = n) (h : Ints w (some ⟨g, 0, none⟩) l) (hv : lenB l = true) :
    Calls Tryd.prog 7 #[.slice (some ⟨g, 0, none⟩) n cap] w fun e w' => ∃ A' c', e = .returned (.tuple #[.slice A' n c', .int .i64 0]) ∧ Fracs w' A' (serL l) ∧ Below w.heap.size w w' := by
  have hn4 := (lenB_iff.1 hv).1
  have hn : 1 ≤ n ∧ n ≤ 4 := by omega
  obtain ⟨ad, hAe, had, hc⟩ := h.some_ (by omega)
  injection hAe with hAe
  subst hAe
  have hb2 : Below w.heap.size w (w.alloc (.cells #[.slice (some ⟨g, 0, none⟩) n cap] 22)) := (Below.refl _ _).alloc (Nat.le_refl _) _
  have hBx : Blk (w.alloc (.cells #[.slice (some ⟨g, 0, none⟩) n cap] 22)) w.heap.size 22 #[.slice (some ⟨g, 0, none⟩) n cap] := Blk.new w _ _ rfl
  have HC := Lib.hid (sorted_any w.heap.size g cap n l hl hn (w.alloc (.cells #[.slice (some ⟨g, 0, none⟩) n cap] 22)) (by simp) (hBx.cell 0) (by have : g < w.heap.size := had; simp; omega) (h.below hb2))
  have H := Lib.hid (And.intro hl (And.intro h (And.intro hv (And.intro hc hb2))))
  clear hl h hv hn4 hc hb2 hBx
  go_enter Tryd.func7, Tryd.ntmps7
  go_wp2_with fail
  refine (glengths_any _ n cap l _ H.out.1 (by omega) H.out.2.1).mono ?_
  rintro e w' ⟨rfl, rfl⟩
  rw [H.out.2.2.1]
  go_wp2_with fail
  refine (values_any (some ⟨g, 0, none⟩) n cap w).mono ?_
  rintro e w2 ⟨rfl, rfl⟩
  go_wp2_with fail
  refine HC.out.mono ?_
  rintro e w3 ⟨g3, c3, rfl, hown3, hb3⟩
  have hsl : (sortTo l n).length = n := by rw [sortTo_length, H.out.1]
  have hI3 : Ints w3 (some ⟨g3, 0, none⟩) (sortTo l n) := At.of_own hown3
  have hpm := sortTo_perm l n (by rw [H.out.1]; exact Nat.le_refl _)
  have hso := sortTo_sorted l n (by rw [H.out.1]; exact Nat.le_refl _)
  obtain ⟨S, hS⟩ : ∃ S, S = sortTo l n := ⟨_, rfl⟩
  rw [← hS] at hsl hI3 hpm hso
  have hso' : ∀ a b, a < b → b < S.length → S.getD a 0 ≤ S.getD b 0 := fun a b h1 h2 => hso a b h1 (by omega)
  have hb3' : Below w.heap.size w w3 := H.out.2.2.2.2.trans (hb3.mono (by simp))
  have H3 := Lib.hid (And.intro hsl (And.intro hI3 (And.intro hpm (And.intro hso' hb3'))))
  have hw3 := hb3'.size
  clear hown3 hb3 hsl hI3 hpm hso hS hso' hb3' HC
  go_wp2_with fail
  go_loopw [5, 20] (fun ov iv wr => ∃ (k : Nat) (A : Option Addr) (cp : Nat), k ≤ n ∧ iv = .int .i64 k ∧ ov = .slice A k cp ∧ wr.ownsRow w3.heap.size 41 2 (.slice A k cp) k (fcells ((serL l).take k)) ∧ Below w3.heap.size w3 wr) (fun _ iv _ => n - (intOf iv).toNat)
  case atStart => exact ⟨0, none, 0, Nat.zero_le _, rfl, rfl, by simpa [fcells] using World.ownsRow_nil _ _ _ _, Below.refl _ _⟩
  case round =>
    obtain ⟨k, A, cp, hkn, rfl, rfl, hown, hbl⟩ := hrel
    have HR := Lib.hid (And.intro hown hbl)
    clear hown hbl
    by_cases hlt : k < n
    · obtain ⟨x, hx⟩ : ∃ x, l[k]? = some x := ⟨_, List.getElem?_eq_getElem (by rw [H.out.1]; exact hlt)⟩
      have hxb := (lenB_iff.1 H.out.2.2.1).2 x (List.mem_of_getElem? hx)
      have c0 : wr.cell? ⟨g, k, none⟩ = some (.int .i64 x) := by
        have h0 := H.out.2.2.2.1 k x hx
        rw [show (⟨g, 0, none⟩ : Addr).add k = ⟨g, k, none⟩ from by cases k <;> simp [Addr.add]] at h0
        have h1 := (H3.out.2.2.2.2.cell (lt_of_cell h0)).trans h0
        exact (HR.out.2.cell (lt_of_cell h1)).trans h1
      have hq : (serL l)[k]? = some (serQ l x.toNat) := by unfold serL; rw [List.getElem?_map, hx]; rfl
      obtain ⟨q, hqe⟩ : ∃ q, q = serQ l x.toNat := ⟨_, rfl⟩
      rw [← hqe] at hq
      have HQ := Lib.hid hqe
      have HNEW : Hid (fcells ((serL l).take (k + 1)) = fcells ((serL l).take k) ++ [.int .i64 q.num, .int .i64 (q.den : Int)]) := Lib.hid (by
        rw [List.take_add_one, hq]; exact fcells_snoc _ _)
      have HX := Lib.hid hx
      clear hx hq hqe
      go_wp2_with fail
      go_loop [8, 9, 26] (fun sv av iv => ∃ j : Nat, j ≤ n ∧ iv = .int .i64 j ∧ sv = .int .i64 (serI l (atS S j).toNat) ∧ av = .int .i64 (atS S j) ∧ ∀ i, i < j → S.getD i 0 ≤ x) (fun _ _ iv => n - (intOf iv).toNat)
      case atStart => exact ⟨0, Nat.zero_le _, rfl, rfl, rfl, fun i hi => by omega⟩
      case round =>
        obtain ⟨j, hj, rfl, rfl, rfl, hall⟩ := hrel
        have HA := Lib.hid hall
        clear hall
        by_cases hlj : j < n
        · obtain ⟨s, hs⟩ : ∃ s, S[j]? = some s := ⟨_, List.getElem?_eq_getElem (by rw [H3.out.1]; exact hlj)⟩
          have hsg : S.getD j 0 = s := by rw [List.getD_eq_getElem?_getD, hs]; rfl
          obtain ⟨p0, p1, p2⟩ := stretch H.out.2.2.1 H3.out.2.2.1 H3.out.2.2.2.1 (k := j) (by rw [H3.out.1]; exact hlj)
          rw [hsg] at p1 p2
          have hss := (lenB_iff.1 H.out.2.2.1).2 s (H3.out.2.2.1.mem_iff.1 (List.mem_of_getElem? hs))
          have hsb := serI_bd l (atS S j).toNat
          obtain ⟨q0, q1, q2⟩ := quo12 (m := n - j) (by omega)
          rw [H3.out.1] at p2
          obtain ⟨y, hy⟩ : ∃ y, y = serI l (atS S j).toNat := ⟨_, rfl⟩
          obtain ⟨a, ha⟩ : ∃ a, a = atS S j := ⟨_, rfl⟩
          have hstop : x < s → serI l (atS S j).toNat = serI l x.toNat := fun hxs => by
            rw [at_end H3.out.2.2.1 H3.out.2.2.2.1 (List.mem_of_getElem? HX.out) (k := j) (by rw [H3.out.1]; omega) HA.out (.inr (by rw [hsg]; exact hxs))]
          have hnx : atS S (j + 1) = s := hsg
          rw [← hy] at p2 hsb hstop ⊢
          rw [← ha] at p0 p1 p2 hsb ⊢
          have c1 : wr.cell? ⟨g3, j, none⟩ = some (.int .i64 s) := by
            have h0 := H3.out.2.1.some2 j (.int .i64 s) (by simp [hs])
            have e : (⟨g3, 0, none⟩ : Addr).add j = ⟨g3, j, none⟩ := by cases j <;> simp [Addr.add]
            rw [e] at h0
            exact (HR.out.2.cell (lt_of_cell h0)).trans h0
          have hz : ((n : Int) - (j : Int)) = ((n - j : Nat) : Int) := by omega
          obtain ⟨m, hme⟩ : ∃ m : Nat, m = n - j := ⟨_, rfl⟩
          rw [← hme] at q0 q1 q2 p2 hz
          obtain ⟨z, hze⟩ : ∃ z : Int, z = 12 / (m : Int) := ⟨_, rfl⟩
          rw [← hze] at q0 q1 q2 p2
          have hmb := mul_small (a := s - a) (b := z) (m := 1000) (n := 12) (by omega) (by omega) (by omega) (by omega) (by omega)
          obtain ⟨u, hue⟩ : ∃ u : Int, u = (s - a) * z := ⟨_, rfl⟩
          rw [← hue] at hmb p2
          have hyb : 0 ≤ y ∧ y ≤ 12000 := by omega
          have HS := Lib.hid (And.intro p2 (And.intro hsg (And.intro hnx hstop)))
          have e0 : (((m : Nat) : Int) == 0) = false := by simp; omega
          have e1 : IntKind.i64.wrap z = z := IntWalk.i64_in _ (by omega)
          have e2 : IntKind.i64.wrap u = u := IntWalk.i64_in _ (by omega)
          have e3 : IntKind.i64.wrap (y + u) = y + u := IntWalk.i64_in _ (by omega)
          have e4 : (s - a) * z = u := hue.symm
          have hm14 : 1 ≤ m ∧ m ≤ 4 := by omega
          clear p2 hsg hnx hstop hs hy ha hsb hze hue hme
          by_cases hgt : x < s
          · have hyx := HS.out.2.2.2 hgt
            have HY := Lib.hid hyx
            clear hyx
            have hfq : Rat.divInt y 12 = q := by rw [HY.out, HQ.out]; rfl
            have HFQ := Lib.hid hfq
            clear hfq
            go_wp2_with fail
            refine (gfrac_any y 12 _ (by omega) (by omega) (by omega) (by omega)).mono ?_
            rintro e w4 ⟨rfl, hb4⟩
            rw [HFQ.out]
            have hown4 := own_below HR.out.1 hb4
            have hbl4 : Below w3.heap.size w3 w4 := HR.out.2.trans (hb4.mono HR.out.2.size)
            have HR4 := Lib.hid (And.intro hown4 hbl4)
            have hw4 : w3.heap.size ≤ w4.heap.size := hbl4.size
            clear hown4 hbl4 hb4
            unfold fr
            go_wp2_with (at_builtin; refine app1 sty_frac rfl _ _ rfl w3.heap.size A k cp _ #[.int .i64 q.num, .int .i64 (q.den : Int)] rfl (by simp [Value.oneCell']) rfl HR4.out.1 rfl (by omega) hw4 ?_)
            intro A5 k5 w5 hown5 _ hbl5 hk51 hk52
            rw [← HNEW.out] at hown5
            have HR5 := Lib.hid (And.intro hown5 (HR4.out.2.trans hbl5))
            clear hown5 hbl5
            go_wp2
            go_roundw
            case rel => exact ⟨k + 1, A5, k5, by omega, by go_num, rfl, HR5.out.1, HR5.out.2⟩
            case measure => simp [intOf]; omega
          · have hle : s ≤ x := by omega
            go_wp2_with fail
            go_round
            case rel => exact ⟨j + 1, by omega, by go_num, val_int (by rw [HS.out.2.2.1]; exact HS.out.1.symm), val_int HS.out.2.2.1.symm, fun i hi => by
              rcases Nat.lt_or_ge i j with h | h
              · exact HA.out i h
              · rw [show i = j by omega, HS.out.2.1]; exact hle⟩
            case measure => simp [intOf]; omega
        · obtain rfl : j = n := by omega
          have hsb := serI_bd l (atS S j).toNat
          have hat := at_end H3.out.2.2.1 H3.out.2.2.2.1 (List.mem_of_getElem? HX.out) (k := j) (by rw [H3.out.1]; exact Nat.le_refl _) HA.out (.inl H3.out.1.symm)
          rw [hat] at hsb ⊢
          obtain ⟨y, hy⟩ : ∃ y, y = serI l x.toNat := ⟨_, rfl⟩
          rw [← hy] at hsb ⊢
          have hyb : 0 ≤ y ∧ y ≤ 12000 := by omega
          have HY := Lib.hid hy
          clear hy hsb hat hlj
          have hfq : Rat.divInt y 12 = q := by rw [HY.out, HQ.out]; rfl
          have HFQ := Lib.hid hfq
          clear hfq
          go_wp2_with fail
          refine (gfrac_any y 12 _ (by omega) (by omega) (by omega) (by omega)).mono ?_
          rintro e w4 ⟨rfl, hb4⟩
          rw [HFQ.out]
          have hown4 := own_below HR.out.1 hb4
          have hbl4 : Below w3.heap.size w3 w4 := HR.out.2.trans (hb4.mono HR.out.2.size)
          have HR4 := Lib.hid (And.intro hown4 hbl4)
          have hw4 : w3.heap.size ≤ w4.heap.size := hbl4.size
          clear hown4 hbl4 hb4
          unfold fr
          go_wp2_with (at_builtin; refine app1 sty_frac rfl _ _ rfl w3.heap.size A k cp _ #[.int .i64 q.num, .int .i64 (q.den : Int)] rfl (by simp [Value.oneCell']) rfl HR4.out.1 rfl (by omega) hw4 ?_)
          intro A5 k5 w5 hown5 _ hbl5 hk51 hk52
          rw [← HNEW.out] at hown5
          have HR5 := Lib.hid (And.intro hown5 (HR4.out.2.trans hbl5))
          clear hown5 hbl5
          go_wp2
          go_roundw
          case rel => exact ⟨k + 1, A5, k5, by omega, by go_num, rfl, HR5.out.1, HR5.out.2⟩
          case measure => simp [intOf]; omega
    · obtain rfl : k = n := by omega
      go_wp2_with fail
      go_ret2
      have hF : Fracs wr A ((serL l).take k) := At.of_own HR.out.1
      rw [List.take_of_length_le (by rw [serL_length, H.out.1]; exact Nat.le_refl _)] at hF
      exact ⟨A, cp, rfl, hF, H3.out.2.2.2.2.trans (HR.out.2.mono hw3)⟩

/-- Where a slice that a call made lies. -/
def AtNew (A : Option Addr) : Prop := ∀ ad, A = some ad → ∃ g, ad = ⟨g, 0, none⟩
theorem atNew_own {w : World} {base e size n c : Nat} {A : Option Addr} {xs : List Value} (h : w.ownsRow base e size (.slice A n c) n xs) : AtNew A := by
  intro ad hA
  rcases h.2 with ⟨h0, _⟩ | ⟨g, cap, cur, hv, _⟩
  · injection h0 with h0; rw [hA] at h0; cases h0
  · injection hv with e1
    rw [hA] at e1
    injection e1 with e1
    exact ⟨g, e1⟩
theorem gserial_any (A : Option Addr) (n cap : Nat) (l : List Int) (w : World) (hl : l.length = n) (hm : n ≤ 9223372036854775807) (h : Ints w A l) (hA : AtNew A) :
    Calls Tryd.prog 7 #[.slice A n cap] w fun e w' => ∃ A' k c', e = .returned (.tuple #[.slice A' k c', .int .i64 (roadE l)]) ∧ (serA l).length = k ∧ Fracs w' A' (serA l) ∧ Below w.heap.size w w' := by
  cases hv : lenB l
  · have HV := Lib.hid hv
    clear hv
    go_enter Tryd.func7, Tryd.ntmps7
    go_wp2_with fail
    refine (glengths_any A n cap l _ hl hm h).mono ?_
    rintro e w' ⟨rfl, rfl⟩
    rw [HV.out]
    go_wp2_with fail
    go_ret2
    exact ⟨none, 0, 0, by unfold roadE; rw [HV.out]; rfl, by unfold serA; rw [HV.out]; rfl, by unfold serA; rw [HV.out]; exact At.nil, Below.refl _ _⟩
  · have hn4 := (lenB_iff.1 hv).1
    obtain ⟨ad, hAe, _⟩ := h.some_ (by omega)
    obtain ⟨g, rfl⟩ := hA ad hAe
    subst hAe
    refine (gserial_ok g n cap l w hl h hv).mono ?_
    rintro e w' ⟨A', c', rfl, hF, hb⟩
    exact ⟨A', n, c', by unfold roadE; rw [hv]; rfl, by unfold serA; rw [hv, if_pos rfl, serL_length, hl], by unfold serA; rw [hv, if_pos rfl]; exact hF, hb⟩

/- Contract: shares of the top's laws: one player pays the cost. -/

theorem shap_09 : shapL [0, 9] 1 = [9] := by decide +kernel

set_option maxHeartbeats 800000 in
theorem tshares_any (w : World) : Calls Tryd.prog 11 #[] w fun e w' => e = .returned (.bool true) ∧ Below w.heap.size w w' := by
  have hI : Ints (w.alloc (.cells #[.int .i64 0, .int .i64 9] 3)) (some ⟨w.heap.size, 0, none⟩) [0, 9] := Blk.ints (xs := [0, 9]) (Blk.new w 3 _ rfl)
  have HI := Lib.hid hI
  clear hI
  go_enter Tryd.func11, Tryd.ntmps11
  go_wp2_with fail
  refine (shapley_ok _ 2 2 [0, 9] _ rfl HI.out (by decide)).mono ?_
  rintro e w1 ⟨A', c', rfl, hown, hb⟩
  have hp : plr [0, 9] = 1 := by decide
  rw [hp] at hown ⊢
  rw [shap_09] at hown
  have H1 := Lib.hid (And.intro hown hb)
  clear hown hb hp
  go_wp2_with fail
  obtain ⟨hown, hb⟩ := H1.out
  have hF : Fracs w1 A' [9] := At.of_own hown
  have hG : Fracs (w1.alloc (.cells #[.int .i64 9, .int .i64 1] 41)) (some ⟨w1.heap.size, 0, none⟩) [9] := by
    have h := (Blk.new w1 41 #[.int .i64 9, .int .i64 1] rfl).at_
    exact h
  refine (equalF_any A' (some ⟨w1.heap.size, 0, none⟩) 1 1 c' 1 [9] [9] _ rfl rfl (by omega) (hF.below ((Below.refl _ _).alloc (by go_size) _)) hG).mono ?_
  rintro e w2 ⟨rfl, m, rfl⟩
  have e1 : eqB ([9] : List Rat) [9] = true := by decide +kernel
  rw [e1]
  have H2 := Lib.hid (((Below.refl _ _).alloc (Nat.le_refl _) (.cells #[.int .i64 0, .int .i64 9] 3)).trans (hb.mono (by simp)))
  have hz : w.heap.size ≤ w1.heap.size := H2.out.size
  clear hown hb hF hG
  go_wp2
  go_ret
  exact ⟨rfl, below_drewN (H2.out.alloc hz _) _⟩

/- TopRoad: the walk. -/

set_option maxRecDepth 100000 in
set_option maxHeartbeats 4000000 in
theorem law_troad (A : Option Addr) (n cap : Nat) (xs : List Int) (y0 y1 y2 y3 i2 : Int) (W : World) (hl : xs.length = n) (hcp : n ≤ cap) (hm : cap ≤ 9223372036854775807) (hI : Ints W A xs)
    (hx : ∀ x ∈ xs, -9223372036854775808 ≤ x ∧ x ≤ 9223372036854775807) (ht : TabW W) (h2 : 2 ≤ W.heap.size) :
    Calls Tryd.prog 3 #[.slice A n cap, .agg #[.int .i64 y0, .int .i64 y1, .int .i64 y2, .int .i64 y3], .int .i64 i2] W fun e w' => e = .returned (.bool true) ∧ Below W.heap.size W w' := by
  have H := Lib.hid (And.intro hl (And.intro hI (And.intro hx (And.intro ht (And.intro hcp hm)))))
  clear hl hI hx ht
  obtain ⟨w3, hw3⟩ : ∃ w3, w3 = ((W.alloc (.cells #[.int .i64 y0, .int .i64 y1, .int .i64 y2, .int .i64 y3] 23)).alloc (.cells #[.int .i64 1, .slice none 0 0] 26)).alloc (.cells #[.int .i64 0] 3) := ⟨_, rfl⟩
  have hT0 : TrR W w3 [y0, y1, y2, y3] [] none 0 (some ⟨W.heap.size + 2, 0, none⟩) 1 := {
    ar := by rw [hw3]; exact ((Blk.new _ _ _ rfl).alloc _).alloc _
    mp := by rw [hw3]; exact (Blk.new _ _ _ (by simp)).alloc _
    rds := World.ownsRow_nil _ _ _ _
    sms := by
      rw [hw3]
      have h := World.ownsRow_lit (base := W.heap.size + 2) (e := 3) (size := 1) ((W.alloc (.cells #[.int .i64 y0, .int .i64 y1, .int .i64 y2, .int .i64 y3] 23)).alloc (.cells #[.int .i64 1, .slice none 0 0] 26)) #[.int .i64 0] 1 (by simp) (by decide) rfl
      simpa [sumsP, sumS] using h
    bel := by rw [hw3]; exact (((Below.refl _ _).alloc (Nat.le_refl _) _).alloc (by simp) _).alloc (by simp; omega) _
    sz := by rw [hw3]; simp }
  have HT0 := Lib.hid hT0
  clear hT0
  go_enter Tryd.func3, Tryd.ntmps3
  go_upto_region 3 with fail
  rw [← hw3]
  clear hw3
  go_wp2_with fail
  go_loopw [8, 29] (fun sv iv wx => ∃ (i : Nat) (cs : List Int) (RA : Option Addr) (rc : Nat) (SA : Option Addr) (sc : Nat), i ≤ n ∧ cs.length ≤ i ∧ iv = .int .i64 i ∧ sv = .slice SA (cs.length + 1) sc ∧ CsOk cs ∧ TrR W wx [y0, y1, y2, y3] cs RA rc SA sc) (fun _ iv _ => n - (intOf iv).toNat)
  case atStart => exact ⟨0, [], none, 0, _, 1, Nat.zero_le _, Nat.le_refl _, rfl, rfl, ⟨by simp, by simp⟩, HT0.out⟩
  case round =>
    obtain ⟨i, cs, RA, rc, SA, sc, hi, hci, rfl, rfl, hok, hT⟩ := hrel
    obtain ⟨wo, rfl⟩ : ∃ wo : World, wo = wr := ⟨_, rfl⟩
    have HT := Lib.hid (And.intro hok hT)
    clear hok hT
    by_cases hlt : i < n
    · obtain ⟨c, hc⟩ : ∃ c, xs[i]? = some c := ⟨_, List.getElem?_eq_getElem (by rw [H.out.1]; exact hlt)⟩
      obtain ⟨aA, rfl, _, hcA⟩ := (H.out.2.1.below HT.out.2.bel).some_ (by rw [H.out.1]; omega)
      have c0 := hcA i c hc
      have l1 : (i : Int) < (n : Int) := by omega
      have l2 : (0 : Int) ≤ (i : Int) := by omega
      clear hcA
      go_upto_region 6 with fail
      clear c0
      by_cases d1 : i < 7 ∧ 1 ≤ c ∧ c ≤ 50
      · obtain ⟨d1, d2, d3⟩ := d1
        have g1 : (i : Int) < 7 := by omega
        have hL7 : cs.length < 7 := by omega
        obtain ⟨m1, m2, f1, f2⟩ := HT.out.2.mp.at2
        go_upto_region 7 with fail
        go_wp2_with (at_builtin; refine app1 sty_road rfl _ _ rfl (W.heap.size + 2) RA cs.length rc _ #[.int .i64 (cs.length : Int), .int .i64 ((cs.length : Int) + 1), .int .i64 c] rfl (by simp [Value.oneCell']) rfl HT.out.2.rds rfl (by omega) HT.out.2.sz ?_)
        intro A4 k4 w4 hown4 hg4 hbl4 hk41 hk42
        have HR := Lib.hid (HT.out.2.road hown4 hg4 hbl4)
        clear m1 m2 f1 f2
        obtain ⟨m1, m2, f1, f2⟩ := (HT.out.2.mp.below hbl4 (by omega)).at2
        clear hown4 hg4 hbl4
        obtain ⟨w5, hw5⟩ : ∃ w5, w5 = w4.setCell ⟨W.heap.size + 1, 1, none⟩ (.slice A4 (cs.length + 1) k4) := ⟨_, rfl⟩
        rw [← hw5] at HR
        go_upto_region 8 with fail
        rw [← hw5]
        clear hw5 m1 m2 f1 f2
        obtain ⟨m1, m2, f1, f2⟩ := HR.out.2.2.1.at2
        obtain ⟨aS, rfl, _, hcS⟩ := (show Ints w5 SA (sumsP cs) from At.of_own HR.out.2.1).some_ (by rw [sumsP_length]; omega)
        have s0 := hcS cs.length _ (sumsP_get (Nat.le_refl _))
        have hsb := sumS_bd HT.out.1 cs.length (Nat.le_refl _)
        obtain ⟨S, hS⟩ : ∃ S, S = sumS cs cs.length := ⟨_, rfl⟩
        rw [← hS] at s0 hsb
        have HS := Lib.hid hS
        clear hcS hS
        go_wp2_with (at_builtin; refine app1 sty_int rfl _ _ rfl (W.heap.size + 2) (some aS) (cs.length + 1) sc _ #[.int .i64 (S + c)] rfl (by simp [Value.oneCell']) rfl HR.out.2.1 rfl (by omega) HR.out.2.2.2.2.2 ?_)
        intro A6 k6 w6 hown6 hg6 hbl6 hk61 hk62
        have hlen : (cs ++ [c]).length = cs.length + 1 := by simp
        have hmp6 := HR.out.2.2.1.below hbl6 (by omega)
        clear m1 m2 f1 f2
        obtain ⟨m1, m2, f1, f2⟩ := hmp6.at2
        have hset := hmp6.set_ 0 (.int .i64 ((cs.length : Int) + 1 + 1))
        have hT' : TrR W (w6.setCell ⟨W.heap.size + 1, 0, none⟩ (.int .i64 ((cs.length : Int) + 1 + 1))) [y0, y1, y2, y3] (cs ++ [c]) A4 k4 A6 k6 := {
          ar := (HR.out.2.2.2.1.below hbl6 (by omega)).far (by simp) _
          mp := by
            rw [hlen]
            have e : (((cs.length + 1 : Nat) : Int) + 1) = (cs.length : Int) + 1 + 1 := by omega
            rw [e]
            exact hset
          rds := by
            have h := own_lowT (own_grown_ty HR.out.1 HR.out.2.1 (by decide) hg6) (p := ⟨W.heap.size + 1, 0, none⟩) (by simp) (.int .i64 ((cs.length : Int) + 1 + 1))
            rw [hlen] at h ⊢
            exact h
          sms := by
            rw [hlen, sumsP_snoc, List.map_append, ← HS.out]
            exact own_lowT hown6 (by simp) _
          bel := (HR.out.2.2.2.2.1.trans (hbl6.mono (by omega))).setCell (by simp) _
          sz := by have := hbl6.size; have := HR.out.2.2.2.2.2; simp [World.setCell]; omega }
        have HT' := Lib.hid hT'
        clear hT' hset hmp6 hown6 hg6 hbl6 hlen
        go_wp2_with fail
        go_roundw
        case rel => exact ⟨i + 1, cs ++ [c], A4, k4, A6, k6, by omega, by simp; omega, by go_num, by simp, HT.out.1.snoc hL7 ⟨d2, d3⟩, HT'.out⟩
        case measure => simp [intOf]; omega
      · by_cases e1 : i < 7
        · have e1' : (i : Int) < 7 := by omega
          by_cases e2 : 1 ≤ c
          · have e3 : decide (c ≤ 50) = false := by simp; omega
            clear d1
            go_wp2_with fail
            go_roundw
            case rel => exact ⟨i + 1, cs, RA, rc, SA, sc, by omega, by omega, by go_num, rfl, HT.out.1, HT.out.2⟩
            case measure => simp [intOf]; omega
          · have e3 : decide (1 ≤ c) = false := by simp; omega
            clear d1
            go_wp2_with fail
            go_roundw
            case rel => exact ⟨i + 1, cs, RA, rc, SA, sc, by omega, by omega, by go_num, rfl, HT.out.1, HT.out.2⟩
            case measure => simp [intOf]; omega
        · have e3 : decide ((i : Int) < 7) = false := by simp; omega
          clear d1
          go_wp2_with fail
          go_roundw
          case rel => exact ⟨i + 1, cs, RA, rc, SA, sc, by omega, by omega, by go_num, rfl, HT.out.1, HT.out.2⟩
          case measure => simp [intOf]; omega
    · obtain rfl : n = i := by omega
      obtain ⟨pp, hp, hpe⟩ := idx_of i2 (k := 4) (by omega) (by omega)
      obtain ⟨N, hN⟩ : ∃ N : Nat, N = pp + 1 := ⟨_, rfl⟩
      have hN4 : 1 ≤ N ∧ N ≤ 4 := by omega
      obtain ⟨ys, hys⟩ : ∃ ys, ys = [y0, y1, y2, y3] := ⟨_, rfl⟩
      have hL0 : LenR W wo wo cs ys 0 none 0 := ⟨by rw [hys]; exact HT.out.2.ar, Kept.refl _ _ _, World.ownsRow_nil _ _ _ _⟩
      have HL0 := Lib.hid hL0
      have hcl7 := HT.out.1.1
      clear hL0 hys hlt hci hi
      go_upto_region 12 with fail
      rw [show (1 : Int) + (pp : Int) = (N : Int) by omega]
      clear hpe hN hp
      go_wp2_with fail
      go_loopw [11, 78] (fun lv jv wx => ∃ (j : Nat) (LA : Option Addr) (lc : Nat), j ≤ N ∧ jv = .int .i64 j ∧ lv = .slice LA j lc ∧ LenR W wo wx cs ys j LA lc) (fun _ jv _ => N - (intOf jv).toNat)
      case atStart => exact ⟨0, none, 0, Nat.zero_le _, rfl, rfl, HL0.out⟩
      case round =>
        obtain ⟨j, LA, lc, hj, rfl, rfl, hLR⟩ := hrel
        obtain ⟨wp, rfl⟩ : ∃ wp : World, wp = wr := ⟨_, rfl⟩
        have HLR := Lib.hid hLR
        clear hLR
        by_cases hlt : j < N
        · have hj4 : j < 4 := by omega
          have hga := alTo_get ys cs.length j hj4
          rw [if_neg (by omega)] at hga
          have c1 : wp.cell? ⟨W.heap.size, j, none⟩ = some (.int .i64 (ys.getD j 0)) := by rw [HLR.out.ar.cell, arr_get, hga]; rfl
          have c2 := HLR.out.ar.frozen j
          obtain ⟨m1, m2, f1, f2⟩ := (HLR.out.mp HT.out.2).at2
          obtain ⟨ha1, ha2⟩ := atF_spec ys hcl7 j
          have l1 : (j : Int) < (N : Int) := by omega
          have l2 : (0 : Int) ≤ (j : Int) := by omega
          have l3 : (j : Int) < 4 := by omega
          obtain ⟨a, ha⟩ : ∃ a, a = atF ys cs.length j := ⟨_, rfl⟩
          rw [← ha] at ha1 ha2
          have HA := Lib.hid ha
          generalize hy : ys.getD j 0 = y at c1 ha2
          have HQ : Hid (∀ nq, _) := Lib.hid fun nq => HLR.out.turn HT.out.2 hj4 nq
          rw [← ha] at HQ
          clear hga hy ha
          go_upto_region 16 with fail
          refine wp_region_drew_tail 11 (by kernel_rfl) (by kernel_rfl) ?_
          simp only [List.take_succ_cons, List.take_zero, List.drop_succ_cons, List.drop_zero]
          repeat (go_big_quiet_step (fail))
          refine wpQuiet_nil ?_
          rintro _ ⟨nq, rfl⟩
          rw [ha2]
          clear ha2 m1 m2 f1 f2
          obtain ⟨w5, hw5⟩ : ∃ w5, w5 = (wp.drewN nq).setCell ⟨W.heap.size, j, none⟩ (.int .i64 (a : Int)) := ⟨_, rfl⟩
          have H5 := Lib.hid (HQ.out nq)
          rw [← hw5] at H5
          clear HQ
          go_upto_region 17 with fail
          rw [← hw5]
          clear hw5 c1 c2
          have hga := alTo_get ys cs.length (j + 1) hj4
          rw [if_pos (by omega), ← HA.out] at hga
          have c1 : w5.cell? ⟨W.heap.size, j, none⟩ = some (.int .i64 (a : Int)) := by rw [H5.out.1.cell, arr_get, hga]; rfl
          obtain ⟨aS, rfl, _, hcS⟩ := (show Ints w5 SA (sumsP cs) from At.of_own (own_keptR HT.out.2.sms H5.out.2.1 (by simp))).some_ (by rw [sumsP_length]; omega)
          have c2 := hcS a _ (sumsP_get ha1)
          have l4 : (a : Int) < (cs.length : Int) + 1 := by omega
          have l5 : (0 : Int) ≤ (a : Int) := by omega
          have hLs := lensTo_succ cs ys j
          rw [← HA.out] at hLs
          have HLs := Lib.hid hLs
          obtain ⟨S, hS⟩ : ∃ S, S = sumS cs a := ⟨_, rfl⟩
          rw [← hS] at c2 HLs
          clear hS hLs hcS hga
          go_wp2_with (at_builtin; refine app1 sty_int rfl _ _ rfl wo.heap.size LA j lc _ #[.int .i64 S] rfl (by simp [Value.oneCell']) rfl H5.out.2.2.1 rfl (by omega) H5.out.2.2.2 ?_)
          intro A6 k6 w6 hown6 hg6 hbl6 hk61 hk62
          have hL6 : LenR W wo w6 cs ys (j + 1) A6 k6 := ⟨H5.out.1.below hbl6 (by have := HT.out.2.sz; omega), H5.out.2.1.trans (Kept.of_below hbl6 _), by rw [HLs.out, List.map_append]; exact hown6⟩
          have HL6 := Lib.hid hL6
          clear hown6 hg6 hbl6 hL6 c1 c2
          go_wp2_with fail
          go_roundw
          case rel => exact ⟨j + 1, A6, k6, by omega, by go_num, rfl, HL6.out⟩
          case measure => simp [intOf]; omega
        · obtain rfl : N = j := by omega
          obtain ⟨hpw, hp2, hp16⟩ := pow_of hN4
          obtain ⟨P, hP⟩ : ∃ P, P = 2 ^ N := ⟨_, rfl⟩
          rw [← hP] at hpw hp2 hp16
          obtain ⟨l, hl⟩ : ∃ l, l = lensTo cs ys N := ⟨_, rfl⟩
          obtain ⟨at_, hat⟩ : ∃ at_, at_ = atF ys cs.length := ⟨_, rfl⟩
          have hlen : l.length = N := by rw [hl, lensTo_length]
          have ha : ∀ i, i < N → at_ i ≤ cs.length ∧ l.getD i 0 = sumS cs (at_ i) := fun i hi => by
            rw [hat, hl]
            exact ⟨(atF_spec ys hcl7 i).1, lensTo_get cs ys hi⟩
          have hlb : lenB l = true := lens_ok HT.out.1 hN4 hlen ha
          have hao : ∀ i, i < N → wp.cell? ⟨W.heap.size, i, none⟩ = some (.int .i64 (at_ i : Int)) := fun i hi => by
            rw [HLR.out.ar.cell, arr_get, alTo_get ys cs.length N (by omega), if_pos hi, hat]; rfl
          have hown : wp.ownsRow wo.heap.size 3 1 (.slice LA N lc) N (l.map (Value.int .i64)) := by rw [hl]; exact HLR.out.own
          have HA := Lib.hid (And.intro hlen (And.intro ha (And.intro hlb (And.intro hao (And.intro hown hP)))))
          clear hl hat hlen ha hlb hao hown hP
          have hbp := HLR.out.bel HT.out.2
          have hbps := hbp.size
          have HBP := Lib.hid hbp
          clear hbp
          clear hlt hj
          go_upto_region 21 with fail
          go_loopw [13, 104] (fun cv sv wx => ∃ (s : Nat) (CA : Option Addr) (cc : Nat), s ≤ P ∧ sv = .int .i64 s ∧ cv = .slice CA s cc ∧ wx.ownsRow wp.heap.size 3 1 (.slice CA s cc) s (((roadL l).map (Value.int .i64)).take s) ∧ Below wp.heap.size wp wx) (fun _ sv _ => P - (intOf sv).toNat)
          case atStart => exact ⟨0, none, 0, Nat.zero_le _, rfl, rfl, by simpa using World.ownsRow_nil _ _ _ _, Below.refl _ _⟩
          case round =>
            obtain ⟨s, CA, cc, hs, rfl, rfl, hown, hbl⟩ := hrel
            obtain ⟨wq, rfl⟩ : ∃ wq : World, wq = wr := ⟨_, rfl⟩
            have hbz := hbl.size
            have HR := Lib.hid (And.intro hown hbl)
            clear hown hbl
            by_cases hlt : s < P
            · obtain ⟨⟨hs1, hs2⟩, hcon, hste, M, hM, hfound, hK⟩ := least_road HT.out.1 (fun i hi => HA.out.2.1 i hi) s (n := N)
              have HST := Lib.hid (And.intro hcon (And.intro hste (And.intro hfound (And.intro hK (And.intro hs1 hs2)))))
              have hLq := HLR.out.size HT.out.2
              clear hcon hste hfound hK hs1 hs2
              go_upto_region 24 with fail
              go_wp2_with fail
              go_loop [15, 108] (fun mv kv => ∃ k : Nat, k ≤ N ∧ kv = .int .i64 k ∧ mv = .int .i64 (stopsTo at_ s k)) (fun _ kv => N - (intOf kv).toNat)
              case atStart => exact ⟨0, Nat.zero_le _, rfl, rfl⟩
              case round =>
                obtain ⟨k, hk, rfl, rfl⟩ := hrel
                by_cases hlk : k < N
                · obtain ⟨ha1, _⟩ := HA.out.2.1 k hlk
                  have c1 : wq.cell? ⟨W.heap.size, k, none⟩ = some (.int .i64 (at_ k : Int)) := (HR.out.2.cell (p := ⟨W.heap.size, k, none⟩) (by show W.heap.size < _; omega)).trans (HA.out.2.2.2.1 k hlk)
                  obtain ⟨_, _, _, _, _, _, hst6⟩ := stops_max HT.out.1 (n := N) (fun i hi => HA.out.2.1 i hi) s k hk
                  have hm256 : stopsTo at_ s k < 256 := Nat.lt_of_lt_of_le hst6 (Nat.pow_le_pow_right (n := 2) (by omega) (show cs.length + 1 ≤ 8 by omega))
                  have hstep : stopsTo at_ s (k + 1) = if s.testBit k then stopsTo at_ s k ||| 2 ^ at_ k else stopsTo at_ s k := rfl
                  obtain ⟨m, hme⟩ : ∃ m, m = stopsTo at_ s k := ⟨_, rfl⟩
                  rw [← hme] at hstep hm256 ⊢
                  obtain ⟨a, hae⟩ : ∃ a, a = at_ k := ⟨_, rfl⟩
                  rw [← hae] at c1 hstep ha1
                  have l1 : (k : Int) < (N : Int) := by omega
                  have l2 : (0 : Int) ≤ (k : Int) := by omega
                  have l3 : (k : Int) < 4 := by omega
                  clear hst6 hae hme
                  cases hbit : s.testBit k
                  · have b1 := and_shr_f (set := s) (k := k) (by omega) hbit
                    rw [hbit, if_neg (by simp)] at hstep
                    have HS := Lib.hid hstep
                    clear hstep hbit
                    go_wp2_with fail
                    go_round
                    case rel => exact ⟨k + 1, by omega, by go_num, val_int (by rw [HS.out])⟩
                    case measure => simp [intOf]; omega
                  · have b1 := and_shr_t (set := s) (k := k) (by omega) hbit
                    rw [hbit, if_pos rfl] at hstep
                    obtain ⟨A2, hA2, hA256, hw1, hw2⟩ := end_bits (a := a) (by omega)
                    rw [← hA2] at hstep
                    have hor := or256 hm256 hA256
                    have HS := Lib.hid hstep
                    have l4 : (0 : Int) ≤ (a : Int) := by omega
                    clear hstep hbit hA2
                    go_wp2_with fail
                    go_round
                    case rel => exact ⟨k + 1, by omega, by go_num, val_int (by rw [HS.out])⟩
                    case measure => simp [intOf]; omega
                · obtain rfl : N = k := by omega
                  have hbq := HBP.out.trans (HR.out.2.mono hbps)
                  have htl := tleast_any (cs.length + 1) RA cs.length rc (pathR cs) (stopsTo at_ s N) M wq (pathR_length cs) HT.out.1.valid ((HLR.out.rds HT.out.2).below (HR.out.2)) ⟨HST.out.2.2.2.2.1, HST.out.2.2.2.2.2⟩ (H.out.2.2.2.1.below hbq h2) (by omega) HST.out.1 ⟨HST.out.2.2.2.1.1, by have := HST.out.2.2.2.1.2; omega⟩ hM HST.out.2.2.1
                  rw [HST.out.2.1, show (((cs.length + 1 : Nat)) : Int) = (cs.length : Int) + 1 by omega] at htl
                  have HTL := Lib.hid htl
                  obtain ⟨m1, m2, f1, f2⟩ := ((HLR.out.mp HT.out.2).below (HR.out.2) (HLR.out.mp HT.out.2).lt).at2
                  have hnew : ((roadL l).map (Value.int .i64)).take (s + 1) = ((roadL l).map (Value.int .i64)).take s ++ [.int .i64 (maxTo l s N)] := by
                    rw [← List.map_take, roadL_takeT (by rw [HA.out.1, ← HA.out.2.2.2.2.2]; exact hlt), List.map_append, HA.out.1, List.map_take]; rfl
                  have HNEW := Lib.hid hnew
                  clear htl hbq hnew
                  go_wp2_with fail
                  refine HTL.out.mono ?_
                  rintro e w6 ⟨rfl, hb6⟩
                  have hown6 := own_below HR.out.1 hb6
                  have hz6 := hb6.size
                  have H6 := Lib.hid (And.intro hown6 (HR.out.2.trans (hb6.mono hbz)))
                  clear hb6 hown6 m1 m2 f1 f2
                  obtain ⟨x, hxe⟩ : ∃ x, x = maxTo l s N := ⟨_, rfl⟩
                  rw [← hxe] at HNEW ⊢
                  clear hxe
                  go_wp2_with (at_builtin; refine app1 sty_int rfl _ _ rfl wp.heap.size CA s cc _ #[.int .i64 x] rfl (by simp [Value.oneCell']) rfl H6.out.1 rfl (by omega) (by omega) ?_)
                  intro A4 k4 w4 hown4 _ hbl4 hk41 hk42
                  rw [← HNEW.out] at hown4
                  have HR4 := Lib.hid (And.intro hown4 (H6.out.2.trans hbl4))
                  clear hown4 hbl4
                  go_wp2_with fail
                  go_roundw
                  case rel => exact ⟨s + 1, A4, k4, by omega, by go_num, rfl, HR4.out.1, HR4.out.2⟩
                  case measure => simp [intOf]; omega
            · obtain rfl : P = s := by omega
              have hlenR : (roadL l).length = P := by rw [roadL_length, HA.out.1, ← HA.out.2.2.2.2.2]
              have hownC := HR.out.1
              rw [List.take_of_length_le (by rw [List.length_map, hlenR]; exact Nat.le_refl _)] at hownC
              have hlbl : lenB l = true := HA.out.2.2.1
              have hrA : roadA l = roadL l := by unfold roadA; rw [if_pos hlbl]
              have hrE : roadE l = 0 := by unfold roadE; rw [if_pos hlbl]
              have hsA : serA l = serL l := by unfold serA; rw [if_pos hlbl]
              have HX := Lib.hid (And.intro hlenR (And.intro hownC (And.intro hrA (And.intro hrE (And.intro hsA hlbl)))))
              have hIl : Ints wq LA l := At.of_own (own_below HA.out.2.2.2.2.1 HR.out.2)
              have HIL := Lib.hid hIl
              clear hlenR hownC hlbl hrA hrE hsA hIl
              go_upto_region 35 with fail
              go_wp2_with fail
              refine (groad_any LA N lc l wq HA.out.1 (by omega) HIL.out).mono ?_
              rintro e w5 ⟨A5, k5, c5, rfl, hk5, hI5, hb5⟩
              rw [HX.out.2.2.1] at hk5 hI5
              rw [HX.out.2.2.2.1]
              have hz5 := hb5.size
              have H5 := Lib.hid (And.intro hk5 (And.intro hI5 (And.intro (HR.out.2.trans (hb5.mono hbz)) (And.intro (HIL.out.below hb5) hb5))))
              clear hk5 hI5 hb5
              go_wp2_with fail
              refine (gserial_any LA N lc l w5 HA.out.1 (by omega) H5.out.2.2.2.1 (atNew_own HA.out.2.2.2.2.1)).mono ?_
              rintro e w6 ⟨A6, k6, c6, rfl, hk6, hF6, hb6⟩
              rw [HX.out.2.2.2.2.1] at hk6 hF6
              rw [HX.out.2.2.2.1]
              have hz6 := hb6.size
              have hIC : Ints w6 CA (roadL l) := ((At.of_own HX.out.2.1 : Ints wq CA (roadL l)).below H5.out.2.2.2.2).below hb6
              have H6 := Lib.hid (And.intro hk6 (And.intro hF6 (And.intro (H5.out.2.2.1.trans (hb6.mono (by omega))) (And.intro (H5.out.2.1.below hb6) hIC))))
              clear hk6 hF6 hb6 hIC
              have hlbl := HX.out.2.2.2.2.2
              have HSH := Lib.hid (shapley_ok CA P cc (roadL l) w6 HX.out.1 H6.out.2.2.2.2 (road_valid hlbl))
              rw [road_plr hlbl, HA.out.1] at HSH
              have hrs := road_shap hlbl
              rw [HA.out.1] at hrs
              rw [hrs] at HSH
              clear hlbl hrs
              go_wp2_with fail
              refine HSH.out.mono ?_
              rintro e w7 ⟨A7, c7, rfl, hown7, hb7⟩
              have hz7 := hb7.size
              have hF7 : Fracs w7 A7 (serL l) := At.of_own hown7
              have hq1 : eqB (roadL l) (roadL l) = true := decide_eq_true rfl
              have hq2 : eqB (serL l) (serL l) = true := decide_eq_true rfl
              have h7 := H6.out.2.2.1.trans (hb7.mono (by omega))
              have hsl : (serL l).length = N := by rw [serL_length, HA.out.1]
              have HE1 := Lib.hid (equal_any A5 CA k5 P c5 cc (roadL l) (roadL l) w7 H5.out.1 HX.out.1 (by have := H5.out.1; have := HX.out.1; omega) (H6.out.2.2.2.1.below hb7) (H6.out.2.2.2.2.below hb7))
              have HE2 : Hid (∀ m, _) := Lib.hid fun m => equalF_any A6 A7 k6 N c6 c7 (serL l) (serL l) (w7.drewN m) H6.out.1 hsl (by have := H6.out.1; omega) (H6.out.2.1.below (below_drewN hb7 m)) (show Fracs (w7.drewN m) A7 (serL l) from hF7)
              rw [hq1] at HE1
              rw [hq2] at HE2
              have H7 := Lib.hid h7
              clear hown7 hb7 hF7 hq1 hq2 h7 hsl
              go_upto_region 38 with fail
              go_wp2_with fail
              refine HE1.out.mono ?_
              rintro e w8 ⟨rfl, m8, rfl⟩
              go_wp2_with fail
              refine (HE2.out m8).mono ?_
              rintro e w9 ⟨rfl, m9, rfl⟩
              go_wp2_with fail
              refine (tshares_any _).mono ?_
              rintro e w10 ⟨rfl, hb10⟩
              have hfin := HBP.out.trans ((below_drewN H7.out (m8 + m9)).mono hbps)
              have hfin2 := hfin.trans (hb10.mono (by have := hfin.size; exact this))
              have HFIN := Lib.hid hfin2
              clear hfin hfin2 hb10
              go_wp2_with fail
              go_ret
              exact ⟨rfl, HFIN.out⟩

/- TopRoad returns true for every input, and its arguments read afterwards as before, where the two tables of math/bits hold what the program's text lays. -/
open Go.ChangeShapes Go.WideShapes Go.ChangeAt Go.RowKit

set_option maxRecDepth 100000 in
theorem topRoad_lifted (os : Os) (started : os.Started) (H : Type) (enc : TypeId × Value → H) :
    ReturnsInHanded {} Tryd.checked os 3 .any (fun w args => (Rows.topRoadSpec.pre enc Tryd.prog Tryd.f3 [] false w args ∧ laidMetH Tryd.prog laidTabs w) ∧ sizedMet enc Tryd.prog Tryd.f3 (OpenSpec.ofChange Rows.topRoadSpec) false w args)
      (Rows.topRoadSpec.post enc Tryd.prog Tryd.f3 false true false false) := by
  refine returnsInHanded_of_change_and (C := Tryd.checked) (X := fun w _ => laidMetH Tryd.prog laidTabs w) (fun _ _ _ hh h => h.of_heap hh) t_own started (by kernel_rfl) Tryd.func3
    (ChangeSpec.witness_shaped (enc := enc) (C := Tryd.checked) (os := os) (X := fun w _ => laidMetH Tryd.prog laidTabs w) false (World.doorLaid Tryd.prog 400 os) #[.slice none 0 0, .agg #[.int .i64 0, .int .i64 0, .int .i64 0, .int .i64 0], .int .i64 0] 8 rfl (World.shaped_of_RefB (by kernel_rfl) (by kernel_rfl)) (by kernel_rfl) (by kernel_rfl) (by kernel_rfl) (door_met os _)) ?_
  intro W base args ds gs before hval0 hW _ _ hL _
  have hval : ∀ (j : Nat) t v, Tryd.f3.params[j]? = some t → args[j]? = some v → Value.okWide Tryd.prog W .any base t v := hval0
  have hW' := hW
  obtain ⟨p, q, hA0, hV, rfl, hfz, hnd⟩ := hW
  have hA : DataW.TrodAll enc Tryd.prog W 0 (fun _ => true) true Tryd.f3.params.toList args.toList ds p := hA0
  have hA1 := hA
  rw [Tryd.params3] at hA hval
  obtain ⟨v0, v1, v2, d0, d1, d2, p0, p1, p2, rfl, rfl, rfl, h0, h1, h2⟩ := trodAll_three hA
  obtain ⟨rfl, rfl⟩ := trodVars_none hV
  obtain ⟨A0, n0, c0, xs0, rfl, hl0, hn0, hm0, hI0, hx0⟩ := open_intsI h0 (okWide_slice Tryd.underlying22 (hval 0 22 v0 rfl rfl))
  obtain ⟨y0, y1, y2, y3, rfl⟩ := open_arr4I h1 (hval 1 23 v1 rfl rfl)
  obtain ⟨i2, rfl, rfl, rfl, hwi⟩ := open_int Tryd.underlying3 (hval 2 3 v2 rfl rfl) h2
  obtain ⟨hT, h2s⟩ := tab_of_laid hL
  clear hA0 hval0
  refine (law_troad A0 n0 c0 xs0 y0 y1 y2 y3 i2 W hl0 hn0 hm0 hI0 hx0 hT h2s).mono fun e W' ⟨he, hb⟩ => ?_
  subst he
  have hlt := fun x (hx : x ∈ _) => hW'.lt x hx
  exact ⟨_, rfl, post_of_below (pv := []) hW' (fun _ _ _ => trodAll_mk1 (shut_bool Tryd.underlying4 _))
    (fun sp hsp => trodAll_below hb sp _ _ _ _ (by rw [Tryd.params3]; intro t ht; simp at ht; rcases ht with rfl | rfl | rfl <;> exact ⟨by kernel_rfl, of_decide_eq_true (by kernel_rfl)⟩) (fun x hx => hlt x (by simpa using hx)) (fun x hx => hsp x (by simpa using hx)) hA1)
    (fun _ _ => rfl) rfl hb (ok_one (by kernel_rfl) rfl (okWide_bool_mk Tryd.underlying4 _))⟩

theorem topRoad_row : Rows.TopRoadSaid :=
  OpenClaim.holds_of_wide 3 Tryd.f3 rfl rfl rfl rfl rfl rfl rfl ⟨rfl, rfl, rfl, rfl, rfl⟩ rfl rfl rfl rfl rfl (by kernel_rfl) Tryd.func3 (by kernel_rfl)
    (of_decide_eq_true (by kernel_rfl)) (by unfold Func.isWrapper; first | (rw [if_pos (by decide +kernel)]; kernel_rfl) | (rw [if_neg (by decide +kernel)]; exact ⟨rfl, rfl⟩))
    (fun os started H enc _ => topRoad_lifted os started H enc)
#print axioms topRoad_row
end Go.Proofs.YtifmekijdepokaaDoor
