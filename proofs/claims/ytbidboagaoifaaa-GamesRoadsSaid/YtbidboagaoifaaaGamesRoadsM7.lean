/- Laws and contracts that the proof of GamesRoads uses, part 7. -/
import Derived.Test.YtbidboagaoifaaaSValues
import Derived.Test.YtbidboagaoifaaaGamesRoadsM6
import Derived.Test.YtbidboagaoifaaaGamesRoadsM2
import Derived.Test.YtbidboagaoifaaaGamesRoadsM1
import Derived.Test.YtbidboagaoifaaaGamesRoadsM3
import Derived.Test.YtbidboagaoifaaaGamesRoadsM4
namespace Go.Proofs.Ytbidboagaoifaaa
open Go.RowKit

/- Contracts: slices.Collect and Sorted over slices.Values. -/

theorem appendseq_any (Bs b cap n : Nat) (zs : List Int) (hzl : zs.length = n) (hlen : 1 ≤ n ∧ n ≤ 1000) (w : World) (hBs : Bs < w.heap.size)
    (hcs : w.cell? ⟨Bs, 0, none⟩ = some (.slice (some ⟨b, 0, none⟩) n cap)) (hb : b < w.heap.size) (hI : Ints w (some ⟨b, 0, none⟩) zs) :
    Calls Try.prog 94 #[.slice none 0 0, .func (.func 93) #[] #[.pointer (some ⟨Bs, 0, none⟩)]] w fun e W' => ∃ g c, e = .returned (.slice (some ⟨g, 0, none⟩) n c) ∧ W'.ownsRow w.heap.size 3 1 (.slice (some ⟨g, 0, none⟩) n c) n (zs.map (Value.int .i64)) ∧ Below w.heap.size w W' := by
  subst hzl
  refine (callsIn_wide (n := 3)).1 ((appendseq_in Fence.wide 3 trivial trivial rfl (Nat.le_refl _) Bs b cap zs hlen.2 w hBs hcs hb (fun j hj => ?_)).mono ?_)
  · obtain ⟨ad, had, hc⟩ := hI j (.int .i64 (zs[j]?.getD 0)) (by rw [List.getElem?_map, List.getElem?_eq_getElem hj]; rfl)
    injection had with had
    subst had
    have e : (⟨b, 0, none⟩ : Addr).add j = ⟨b, j, none⟩ := by cases j <;> simp [Addr.add]
    rwa [e] at hc
  · rintro e W' ⟨v, rfl, hown, _, hbl⟩
    obtain ⟨A', k', rfl, _, _, _⟩ := own_form hown
    obtain ⟨g, rfl, _, _⟩ := own_some hown hlen.1
    exact ⟨g, k', rfl, hown, hbl⟩

set_option maxHeartbeats 800000 in
theorem collect_any (Bs b cap n : Nat) (zs : List Int) (hzl : zs.length = n) (hlen : 1 ≤ n ∧ n ≤ 1000) (w : World) (hBs : Bs < w.heap.size)
    (hcs : w.cell? ⟨Bs, 0, none⟩ = some (.slice (some ⟨b, 0, none⟩) n cap)) (hb : b < w.heap.size) (hI : Ints w (some ⟨b, 0, none⟩) zs) :
    Calls Try.prog 91 #[.func (.func 93) #[] #[.pointer (some ⟨Bs, 0, none⟩)]] w fun e W' => ∃ g c, e = .returned (.slice (some ⟨g, 0, none⟩) n c) ∧ W'.ownsRow w.heap.size 3 1 (.slice (some ⟨g, 0, none⟩) n c) n (zs.map (Value.int .i64)) ∧ Below w.heap.size w W' := by
  have HC := Lib.hid (appendseq_any Bs b cap n zs hzl hlen w hBs hcs hb hI)
  clear hzl hcs hI
  go_enter Try.func91, Try.ntmps91
  go_wp2_with fail
  refine HC.out.mono ?_
  rintro e W ⟨g, c, rfl, hown, hbl⟩
  have HO := Lib.hid (And.intro hown hbl)
  clear hown hbl
  go_wp2_with fail
  go_ret
  exact ⟨g, c, rfl, HO.out⟩

set_option maxHeartbeats 800000 in
theorem sorted_any (Bs b cap n : Nat) (zs : List Int) (hzl : zs.length = n) (hlen : 1 ≤ n ∧ n ≤ 4) (w : World) (hBs : Bs < w.heap.size)
    (hcs : w.cell? ⟨Bs, 0, none⟩ = some (.slice (some ⟨b, 0, none⟩) n cap)) (hb : b < w.heap.size) (hI : Ints w (some ⟨b, 0, none⟩) zs) :
    Calls Try.prog 81 #[.func (.func 93) #[] #[.pointer (some ⟨Bs, 0, none⟩)]] w fun e W' => ∃ g c, e = .returned (.slice (some ⟨g, 0, none⟩) n c) ∧ W'.ownsRow w.heap.size 3 1 (.slice (some ⟨g, 0, none⟩) n c) n ((sortTo zs n).map (Value.int .i64)) ∧ Below w.heap.size w W' := by
  have HC := Lib.hid (collect_any Bs b cap n zs hzl ⟨hlen.1, by omega⟩ w hBs hcs hb hI)
  have HZ := Lib.hid hzl
  clear hzl hcs hI
  go_enter Try.func81, Try.ntmps81
  go_wp2_with fail
  refine HC.out.mono ?_
  rintro e W ⟨g, c, rfl, hown, hbl⟩
  have hpre : PreB W g n c zs ∧ w.heap.size ≤ g ∧ n ≤ c ∧ c ≤ maxLen := by
    rcases hown.2 with ⟨h0, _⟩ | ⟨g', cap', cur, hv, h1, h2, h3, h4, h5, h6⟩
    · cases h0
    · injection hv with e1 _ e3
      injection e1 with e1
      injection e1 with e1
      subst e1; subst e3
      exact ⟨⟨cur, h2, by rw [h5, Nat.mul_one], by rw [← h6, Nat.mul_one]⟩, h1, h3, h4⟩
  have HO := Lib.hid (And.intro hpre hbl)
  clear hown hbl hpre
  go_wp2_with fail
  refine (ssort_any g c n zs W HZ.out hlen HO.out.1.1).mono ?_
  rintro e w2 ⟨rfl, hp2, hk2⟩
  have H2 := Lib.hid (And.intro hp2 hk2)
  clear hp2 hk2
  go_wp2_with fail
  go_ret
  refine ⟨g, c, rfl, ?_, ?_⟩
  · obtain ⟨cur, hB, hs, ht⟩ := H2.out.1
    exact ⟨by rw [List.length_map, sortTo_length, HZ.out, Nat.mul_one], .inr ⟨g, c, cur, rfl, HO.out.1.2.1, hB, HO.out.1.2.2.1, HO.out.1.2.2.2, by rw [hs, Nat.mul_one], by rw [Nat.mul_one]; exact ht⟩⟩
  · have hsz := HO.out.2.size
    exact HO.out.2.trans (H2.out.2.mono (S' := []) hsz (fun x hx => by rw [List.mem_singleton.1 hx]; exact .inr HO.out.1.2.1)).below


/- Contract: Serial of package games. -/

/-- Serial, for every lengths. -/
def serA (l : List Int) : List Rat := if lenB l then serL l else []
theorem quo12 {m : Nat} (h : 1 ≤ m ∧ m ≤ 4) : (12 : Int).tdiv (m : Int) = 12 / (m : Int) ∧ 3 ≤ 12 / (m : Int) ∧ 12 / (m : Int) ≤ 12 := by
  have : m = 1 ∨ m = 2 ∨ m = 3 ∨ m = 4 := by omega
  rcases this with rfl | rfl | rfl | rfl <;> decide
theorem mul_small {a b m n : Int} (h1 : 0 ≤ a) (h2 : a ≤ m) (h3 : 0 ≤ b) (h4 : b ≤ n) (hm : 0 ≤ m) : 0 ≤ a * b ∧ a * b ≤ m * n :=
  ⟨Int.mul_nonneg h1 h3, Int.mul_le_mul h2 h4 h3 hm⟩
set_option maxRecDepth 100000 in
set_option maxHeartbeats 4000000 in
theorem gserial_ok (g n cap : Nat) (l : List Int) (w : World) (hl : l.length = n) (h : Ints w (some ⟨g, 0, none⟩) l) (hv : lenB l = true) :
    Calls Try.prog 52 #[.slice (some ⟨g, 0, none⟩) n cap] w fun e w' => ∃ A' c', e = .returned (.tuple #[.slice A' n c', .int .i64 0]) ∧ Fracs w' A' (serL l) ∧ Below w.heap.size w w' := by
  have hn4 := (lenB_iff.1 hv).1
  have hn : 1 ≤ n ∧ n ≤ 4 := by omega
  obtain ⟨ad, hAe, had, hc⟩ := h.some_ (by omega)
  injection hAe with hAe
  subst hAe
  have hb2 : Below w.heap.size w (w.alloc (.cells #[.slice (some ⟨g, 0, none⟩) n cap] 22)) := (Below.refl _ _).alloc (Nat.le_refl _) _
  have hBx : Blk (w.alloc (.cells #[.slice (some ⟨g, 0, none⟩) n cap] 22)) w.heap.size 22 #[.slice (some ⟨g, 0, none⟩) n cap] := Blk.new w _ _ rfl
  have HC := Lib.hid (sorted_any w.heap.size g cap n l hl hn (w.alloc (.cells #[.slice (some ⟨g, 0, none⟩) n cap] 22)) (by simp) (hBx.cell 0) (by have : g < w.heap.size := had; simp; omega) (h.below hb2))
  have H := Lib.hid (And.intro hl (And.intro h (And.intro hv (And.intro hc hb2))))
  clear hl h hv hn4 hc hb2 hBx
  go_enter Try.func52, Try.ntmps52
  go_wp2_with fail
  refine (glengths_any _ n cap l _ H.out.1 (by omega) H.out.2.1).mono ?_
  rintro e w' ⟨rfl, rfl⟩
  rw [H.out.2.2.1]
  go_wp2_with fail
  refine (values_any (some ⟨g, 0, none⟩) n cap w).mono ?_
  rintro e w2 ⟨rfl, rfl⟩
  go_wp2_with fail
  refine HC.out.mono ?_
  rintro e w3 ⟨g3, c3, rfl, hown3, hb3⟩
  have hsl : (sortTo l n).length = n := by rw [sortTo_length, H.out.1]
  have hI3 : Ints w3 (some ⟨g3, 0, none⟩) (sortTo l n) := At.of_own hown3
  have hpm := sortTo_perm l n (by rw [H.out.1]; exact Nat.le_refl _)
  have hso := sortTo_sorted l n (by rw [H.out.1]; exact Nat.le_refl _)
  obtain ⟨S, hS⟩ : ∃ S, S = sortTo l n := ⟨_, rfl⟩
  rw [← hS] at hsl hI3 hpm hso
  have hso' : ∀ a b, a < b → b < S.length → S.getD a 0 ≤ S.getD b 0 := fun a b h1 h2 => hso a b h1 (by omega)
  have hb3' : Below w.heap.size w w3 := H.out.2.2.2.2.trans (hb3.mono (by simp))
  have H3 := Lib.hid (And.intro hsl (And.intro hI3 (And.intro hpm (And.intro hso' hb3'))))
  have hw3 := hb3'.size
  clear hown3 hb3 hsl hI3 hpm hso hS hso' hb3' HC
  go_wp2_with fail
  go_loopw [5, 20] (fun ov iv wr => ∃ (k : Nat) (A : Option Addr) (cp : Nat), k ≤ n ∧ iv = .int .i64 k ∧ ov = .slice A k cp ∧ wr.ownsRow w3.heap.size 31 2 (.slice A k cp) k (fcells ((serL l).take k)) ∧ Below w3.heap.size w3 wr) (fun _ iv _ => n - (intOf iv).toNat)
  case atStart => exact ⟨0, none, 0, Nat.zero_le _, rfl, rfl, by simpa [fcells] using World.ownsRow_nil _ _ _ _, Below.refl _ _⟩
  case round =>
    obtain ⟨k, A, cp, hkn, rfl, rfl, hown, hbl⟩ := hrel
    have HR := Lib.hid (And.intro hown hbl)
    clear hown hbl
    by_cases hlt : k < n
    · obtain ⟨x, hx⟩ : ∃ x, l[k]? = some x := ⟨_, List.getElem?_eq_getElem (by rw [H.out.1]; exact hlt)⟩
      have hxb := (lenB_iff.1 H.out.2.2.1).2 x (List.mem_of_getElem? hx)
      have c0 : wr.cell? ⟨g, k, none⟩ = some (.int .i64 x) := by
        have h0 := H.out.2.2.2.1 k x hx
        rw [show (⟨g, 0, none⟩ : Addr).add k = ⟨g, k, none⟩ from by cases k <;> simp [Addr.add]] at h0
        have h1 := (H3.out.2.2.2.2.cell (lt_of_cell h0)).trans h0
        exact (HR.out.2.cell (lt_of_cell h1)).trans h1
      have hq : (serL l)[k]? = some (serQ l x.toNat) := by unfold serL; rw [List.getElem?_map, hx]; rfl
      obtain ⟨q, hqe⟩ : ∃ q, q = serQ l x.toNat := ⟨_, rfl⟩
      rw [← hqe] at hq
      have HQ := Lib.hid hqe
      have HNEW : Hid (fcells ((serL l).take (k + 1)) = fcells ((serL l).take k) ++ [.int .i64 q.num, .int .i64 (q.den : Int)]) := Lib.hid (by
        rw [List.take_add_one, hq]; exact fcells_snoc _ _)
      have HX := Lib.hid hx
      clear hx hq hqe
      go_wp2_with fail
      go_loop [8, 9, 26] (fun sv av iv => ∃ j : Nat, j ≤ n ∧ iv = .int .i64 j ∧ sv = .int .i64 (serI l (atS S j).toNat) ∧ av = .int .i64 (atS S j) ∧ ∀ i, i < j → S.getD i 0 ≤ x) (fun _ _ iv => n - (intOf iv).toNat)
      case atStart => exact ⟨0, Nat.zero_le _, rfl, rfl, rfl, fun i hi => by omega⟩
      case round =>
        obtain ⟨j, hj, rfl, rfl, rfl, hall⟩ := hrel
        have HA := Lib.hid hall
        clear hall
        by_cases hlj : j < n
        · obtain ⟨s, hs⟩ : ∃ s, S[j]? = some s := ⟨_, List.getElem?_eq_getElem (by rw [H3.out.1]; exact hlj)⟩
          have hsg : S.getD j 0 = s := by rw [List.getD_eq_getElem?_getD, hs]; rfl
          obtain ⟨p0, p1, p2⟩ := stretch H.out.2.2.1 H3.out.2.2.1 H3.out.2.2.2.1 (k := j) (by rw [H3.out.1]; exact hlj)
          rw [hsg] at p1 p2
          have hss := (lenB_iff.1 H.out.2.2.1).2 s (H3.out.2.2.1.mem_iff.1 (List.mem_of_getElem? hs))
          have hsb := serI_bd l (atS S j).toNat
          obtain ⟨q0, q1, q2⟩ := quo12 (m := n - j) (by omega)
          rw [H3.out.1] at p2
          obtain ⟨y, hy⟩ : ∃ y, y = serI l (atS S j).toNat := ⟨_, rfl⟩
          obtain ⟨a, ha⟩ : ∃ a, a = atS S j := ⟨_, rfl⟩
          have hstop : x < s → serI l (atS S j).toNat = serI l x.toNat := fun hxs => by
            rw [at_end H3.out.2.2.1 H3.out.2.2.2.1 (List.mem_of_getElem? HX.out) (k := j) (by rw [H3.out.1]; omega) HA.out (.inr (by rw [hsg]; exact hxs))]
          have hnx : atS S (j + 1) = s := hsg
          rw [← hy] at p2 hsb hstop ⊢
          rw [← ha] at p0 p1 p2 hsb ⊢
          have c1 : wr.cell? ⟨g3, j, none⟩ = some (.int .i64 s) := by
            have h0 := H3.out.2.1.some2 j (.int .i64 s) (by simp [hs])
            have e : (⟨g3, 0, none⟩ : Addr).add j = ⟨g3, j, none⟩ := by cases j <;> simp [Addr.add]
            rw [e] at h0
            exact (HR.out.2.cell (lt_of_cell h0)).trans h0
          have hz : ((n : Int) - (j : Int)) = ((n - j : Nat) : Int) := by omega
          obtain ⟨m, hme⟩ : ∃ m : Nat, m = n - j := ⟨_, rfl⟩
          rw [← hme] at q0 q1 q2 p2 hz
          obtain ⟨z, hze⟩ : ∃ z : Int, z = 12 / (m : Int) := ⟨_, rfl⟩
          rw [← hze] at q0 q1 q2 p2
          have hmb := mul_small (a := s - a) (b := z) (m := 1000) (n := 12) (by omega) (by omega) (by omega) (by omega) (by omega)
          obtain ⟨u, hue⟩ : ∃ u : Int, u = (s - a) * z := ⟨_, rfl⟩
          rw [← hue] at hmb p2
          have hyb : 0 ≤ y ∧ y ≤ 12000 := by omega
          have HS := Lib.hid (And.intro p2 (And.intro hsg (And.intro hnx hstop)))
          have e0 : (((m : Nat) : Int) == 0) = false := by simp; omega
          have e1 : IntKind.i64.wrap z = z := IntWalk.i64_in _ (by omega)
          have e2 : IntKind.i64.wrap u = u := IntWalk.i64_in _ (by omega)
          have e3 : IntKind.i64.wrap (y + u) = y + u := IntWalk.i64_in _ (by omega)
          have e4 : (s - a) * z = u := hue.symm
          have hm14 : 1 ≤ m ∧ m ≤ 4 := by omega
          clear p2 hsg hnx hstop hs hy ha hsb hze hue hme
          by_cases hgt : x < s
          · have hyx := HS.out.2.2.2 hgt
            have HY := Lib.hid hyx
            clear hyx
            have hfq : Rat.divInt y 12 = q := by rw [HY.out, HQ.out]; rfl
            have HFQ := Lib.hid hfq
            clear hfq
            go_wp2_with fail
            refine (gfrac_any y 12 _ (by omega) (by omega) (by omega) (by omega)).mono ?_
            rintro e w4 ⟨rfl, hb4⟩
            rw [HFQ.out]
            have hown4 := own_below HR.out.1 hb4
            have hbl4 : Below w3.heap.size w3 w4 := HR.out.2.trans (hb4.mono HR.out.2.size)
            have HR4 := Lib.hid (And.intro hown4 hbl4)
            have hw4 : w3.heap.size ≤ w4.heap.size := hbl4.size
            clear hown4 hbl4 hb4
            unfold fr
            go_wp2_with (at_builtin; refine app1 sty_frac rfl _ _ rfl w3.heap.size A k cp _ #[.int .i64 q.num, .int .i64 (q.den : Int)] rfl (by simp [Value.oneCell']) rfl HR4.out.1 rfl (by omega) hw4 ?_)
            intro A5 k5 w5 hown5 _ hbl5 hk51 hk52
            rw [← HNEW.out] at hown5
            have HR5 := Lib.hid (And.intro hown5 (HR4.out.2.trans hbl5))
            clear hown5 hbl5
            go_wp2
            go_roundw
            case rel => exact ⟨k + 1, A5, k5, by omega, by go_num, rfl, HR5.out.1, HR5.out.2⟩
            case measure => simp [intOf]; omega
          · have hle : s ≤ x := by omega
            go_wp2_with fail
            go_round
            case rel => exact ⟨j + 1, by omega, by go_num, val_int (by rw [HS.out.2.2.1]; exact HS.out.1.symm), val_int HS.out.2.2.1.symm, fun i hi => by
              rcases Nat.lt_or_ge i j with h | h
              · exact HA.out i h
              · rw [show i = j by omega, HS.out.2.1]; exact hle⟩
            case measure => simp [intOf]; omega
        · obtain rfl : j = n := by omega
          have hsb := serI_bd l (atS S j).toNat
          have hat := at_end H3.out.2.2.1 H3.out.2.2.2.1 (List.mem_of_getElem? HX.out) (k := j) (by rw [H3.out.1]; exact Nat.le_refl _) HA.out (.inl H3.out.1.symm)
          rw [hat] at hsb ⊢
          obtain ⟨y, hy⟩ : ∃ y, y = serI l x.toNat := ⟨_, rfl⟩
          rw [← hy] at hsb ⊢
          have hyb : 0 ≤ y ∧ y ≤ 12000 := by omega
          have HY := Lib.hid hy
          clear hy hsb hat hlj
          have hfq : Rat.divInt y 12 = q := by rw [HY.out, HQ.out]; rfl
          have HFQ := Lib.hid hfq
          clear hfq
          go_wp2_with fail
          refine (gfrac_any y 12 _ (by omega) (by omega) (by omega) (by omega)).mono ?_
          rintro e w4 ⟨rfl, hb4⟩
          rw [HFQ.out]
          have hown4 := own_below HR.out.1 hb4
          have hbl4 : Below w3.heap.size w3 w4 := HR.out.2.trans (hb4.mono HR.out.2.size)
          have HR4 := Lib.hid (And.intro hown4 hbl4)
          have hw4 : w3.heap.size ≤ w4.heap.size := hbl4.size
          clear hown4 hbl4 hb4
          unfold fr
          go_wp2_with (at_builtin; refine app1 sty_frac rfl _ _ rfl w3.heap.size A k cp _ #[.int .i64 q.num, .int .i64 (q.den : Int)] rfl (by simp [Value.oneCell']) rfl HR4.out.1 rfl (by omega) hw4 ?_)
          intro A5 k5 w5 hown5 _ hbl5 hk51 hk52
          rw [← HNEW.out] at hown5
          have HR5 := Lib.hid (And.intro hown5 (HR4.out.2.trans hbl5))
          clear hown5 hbl5
          go_wp2
          go_roundw
          case rel => exact ⟨k + 1, A5, k5, by omega, by go_num, rfl, HR5.out.1, HR5.out.2⟩
          case measure => simp [intOf]; omega
    · obtain rfl : k = n := by omega
      go_wp2_with fail
      go_ret2
      have hF : Fracs wr A ((serL l).take k) := At.of_own HR.out.1
      rw [List.take_of_length_le (by rw [serL_length, H.out.1]; exact Nat.le_refl _)] at hF
      exact ⟨A, cp, rfl, hF, H3.out.2.2.2.2.trans (HR.out.2.mono hw3)⟩

/-- Where a slice that a call made lies. -/
def AtNew (A : Option Addr) : Prop := ∀ ad, A = some ad → ∃ g, ad = ⟨g, 0, none⟩
theorem atNew_own {w : World} {base e size n c : Nat} {A : Option Addr} {xs : List Value} (h : w.ownsRow base e size (.slice A n c) n xs) : AtNew A := by
  intro ad hA
  rcases h.2 with ⟨h0, _⟩ | ⟨g, cap, cur, hv, _⟩
  · injection h0 with h0; rw [hA] at h0; cases h0
  · injection hv with e1
    rw [hA] at e1
    injection e1 with e1
    exact ⟨g, e1⟩
theorem gserial_any (A : Option Addr) (n cap : Nat) (l : List Int) (w : World) (hl : l.length = n) (hm : n ≤ 9223372036854775807) (h : Ints w A l) (hA : AtNew A) :
    Calls Try.prog 52 #[.slice A n cap] w fun e w' => ∃ A' k c', e = .returned (.tuple #[.slice A' k c', .int .i64 (roadE l)]) ∧ (serA l).length = k ∧ Fracs w' A' (serA l) ∧ Below w.heap.size w w' := by
  cases hv : lenB l
  · have HV := Lib.hid hv
    clear hv
    go_enter Try.func52, Try.ntmps52
    go_wp2_with fail
    refine (glengths_any A n cap l _ hl hm h).mono ?_
    rintro e w' ⟨rfl, rfl⟩
    rw [HV.out]
    go_wp2_with fail
    go_ret2
    exact ⟨none, 0, 0, by unfold roadE; rw [HV.out]; rfl, by unfold serA; rw [HV.out]; rfl, by unfold serA; rw [HV.out]; exact At.nil, Below.refl _ _⟩
  · have hn4 := (lenB_iff.1 hv).1
    obtain ⟨ad, hAe, _⟩ := h.some_ (by omega)
    obtain ⟨g, rfl⟩ := hA ad hAe
    subst hAe
    refine (gserial_ok g n cap l w hl h hv).mono ?_
    rintro e w' ⟨A', c', rfl, hF, hb⟩
    exact ⟨A', n, c', by unfold roadE; rw [hv]; rfl, by unfold serA; rw [hv, if_pos rfl, serL_length, hl], by unfold serA; rw [hv, if_pos rfl]; exact hF, hb⟩

/- Contract: Road of the reference. -/

theorem roadL_take {l : List Int} {s : Nat} (hs : s < 2 ^ l.length) : (roadL l).take (s + 1) = (roadL l).take s ++ [maxTo l s l.length] := by
  refine take_succ' ?_
  unfold roadL
  rw [List.getElem?_map, List.getElem?_range hs]
  rfl
set_option maxRecDepth 100000 in
set_option maxHeartbeats 1600000 in
theorem rroad_any (A : Option Addr) (n cap : Nat) (l : List Int) (w : World) (hl : l.length = n) (h : Ints w A l) (hv : lenB l = true) :
    Calls Try.prog 54 #[.slice A n cap] w fun e w' => ∃ A' c', e = .returned (.slice A' (2 ^ n) c') ∧ Ints w' A' (roadL l) ∧ Below w.heap.size w w' := by
  have hn4 := (lenB_iff.1 hv).1
  have hn : 1 ≤ n ∧ n ≤ 4 := by omega
  obtain ⟨hpw, hp2, hp16⟩ := pow_of hn
  obtain ⟨N, hN⟩ : ∃ N, N = 2 ^ n := ⟨_, rfl⟩
  rw [← hN] at hpw hp2 hp16 ⊢
  obtain ⟨ad, rfl, _, hc⟩ := h.some_ (by omega)
  have H := Lib.hid (And.intro hl (And.intro h (And.intro hv (And.intro hN hc))))
  clear hl h hv hN hn4 hc
  go_enter Try.func54, Try.ntmps54
  go_wp2_with fail
  go_loopw [3, 11] (fun ov iv wr => ∃ (s : Nat) (A2 : Option Addr) (c2 : Nat), s ≤ N ∧ iv = .int .i64 s ∧ ov = .slice A2 s c2 ∧ wr.ownsRow w.heap.size 3 1 (.slice A2 s c2) s (((roadL l).map (Value.int .i64)).take s) ∧ Below w.heap.size w wr) (fun _ iv _ => N - (intOf iv).toNat)
  case atStart => exact ⟨0, none, 0, Nat.zero_le _, rfl, rfl, by simpa using World.ownsRow_nil _ _ _ _, Below.refl _ _⟩
  case round =>
    obtain ⟨s, A2, c2, hs, rfl, rfl, hown, hbl⟩ := hrel
    have HR := Lib.hid (And.intro hown hbl)
    have hbz := hbl.size
    clear hown hbl
    by_cases hlt : s < N
    · go_wp2_with fail
      go_loop [5, 16] (fun mv iv => ∃ k : Nat, k ≤ n ∧ iv = .int .i64 k ∧ mv = .int .i64 (maxTo l s k)) (fun _ iv => n - (intOf iv).toNat)
      case atStart => exact ⟨0, Nat.zero_le _, rfl, rfl⟩
      case round =>
        obtain ⟨k, hk, rfl, rfl⟩ := hrel
        by_cases hlk : k < n
        · obtain ⟨x, hx⟩ : ∃ x, l[k]? = some x := ⟨_, List.getElem?_eq_getElem (by rw [H.out.1]; exact hlk)⟩
          have c0 : wr.cell? (ad.add k) = some (.int .i64 x) := (HR.out.2.cell (lt_of_cell (H.out.2.2.2.2 k x hx))).trans (H.out.2.2.2.2 k x hx)
          have hmb := maxTo_bd H.out.2.2.1 s k
          have hstep : maxTo l s (k + 1) = max (maxTo l s k) (if s.testBit k then x else 0) := by
            rw [maxTo, List.getD_eq_getElem?_getD, hx]; rfl
          obtain ⟨m, hme⟩ : ∃ m, m = maxTo l s k := ⟨_, rfl⟩
          rw [← hme] at hstep hmb ⊢
          cases hbit : s.testBit k
          · have b1 := and_shr_f (set := s) (k := k) (by omega) hbit
            rw [hbit, if_neg (by simp)] at hstep
            have HS := Lib.hid hstep
            clear hstep hme hx hbit
            go_wp2_with fail
            go_round
            case rel => exact ⟨k + 1, by omega, by go_num, val_int (by rw [HS.out]; omega)⟩
            case measure => simp [intOf]; omega
          · have b1 := and_shr_t (set := s) (k := k) (by omega) hbit
            rw [hbit, if_pos rfl] at hstep
            have HS := Lib.hid hstep
            clear hstep hme hx hbit
            go_wp2_with fail
            go_round
            case rel => exact ⟨k + 1, by omega, by go_num, val_int (by rw [HS.out]; first | rfl | (split <;> omega))⟩
            case measure => simp [intOf]; omega
        · obtain rfl : n = k := by omega
          obtain ⟨x, hxe⟩ : ∃ x, x = maxTo l s n := ⟨_, rfl⟩
          have HNEW : Hid (((roadL l).map (Value.int .i64)).take (s + 1) = ((roadL l).map (Value.int .i64)).take s ++ [.int .i64 x]) := Lib.hid (by
            rw [← List.map_take, roadL_take (by rw [H.out.1, ← H.out.2.2.2.1]; exact hlt), List.map_append, H.out.1, hxe, List.map_take]; rfl)
          rw [← hxe]
          clear hxe
          go_wp2_with (at_builtin; refine app1 sty_int rfl _ _ rfl w.heap.size A2 s c2 _ #[.int .i64 x] rfl (by simp [Value.oneCell']) rfl HR.out.1 rfl (by omega) hbz ?_)
          intro A4 k4 w4 hown4 _ hbl4 hk41 hk42
          rw [← HNEW.out] at hown4
          have HR4 := Lib.hid (And.intro hown4 (HR.out.2.trans hbl4))
          clear hown4 hbl4
          go_wp2_with fail
          go_roundw
          case rel => exact ⟨s + 1, A4, k4, by omega, by go_num, rfl, HR4.out.1, HR4.out.2⟩
          case measure => simp [intOf]; omega
    · obtain rfl : N = s := by omega
      go_wp2_with fail
      go_ret
      have hI : Ints wr A2 ((roadL l).take N) := by
        have := HR.out.1
        rw [← List.map_take] at this
        exact At.of_own this
      rw [List.take_of_length_le (by rw [roadL_length, H.out.1, H.out.2.2.2.1]; exact Nat.le_refl _)] at hI
      exact ⟨A2, c2, rfl, hI, HR.out.2⟩

/- GamesRoads returns true for every lengths: the walk. -/

set_option maxRecDepth 100000 in
set_option maxHeartbeats 1600000 in
theorem law_roads (A : Option Addr) (n cap : Nat) (l : List Int) (w : World) (hl : l.length = n) (hcp : n ≤ cap) (hm : cap ≤ 9223372036854775807) (hc : Ints w A l)
    (_ : ∀ x ∈ l, -9223372036854775808 ≤ x ∧ x ≤ 9223372036854775807) :
    Calls Try.prog 16 #[.slice A n cap] w fun e w' => e = .returned (.bool true) ∧ Below w.heap.size w w' := by
  have H := Lib.hid (And.intro hl hc)
  clear hl hc
  go_enter Try.func16, Try.ntmps16
  go_wp2_with fail
  refine (list_any A n cap l _ H.out.1 hcp hm H.out.2).mono ?_
  rintro e w1 ⟨A1, c1, rfl, hown, hb⟩
  have hI : Ints w1 A1 (l.take 18) := At.of_own hown
  have hlt : (l.take 18).length = min n 18 := by rw [List.length_take, H.out.1]; omega
  have H1 := Lib.hid (And.intro hI (And.intro hb hlt))
  clear hown hb hI hlt
  go_wp2_with fail
  refine (groad_any A1 (min n 18) c1 (l.take 18) _ H1.out.2.2 (by omega) H1.out.1).mono ?_
  rintro e w2 ⟨A2, k2, c2, rfl, hk2, hI2, hb⟩
  have H2 := Lib.hid (And.intro hk2 (And.intro hI2 (H1.out.2.1.trans (hb.mono H1.out.2.1.size))))
  clear hk2 hI2 hb
  go_wp2_with fail
  refine (list_any A n cap l _ H.out.1 hcp hm (H.out.2.below H2.out.2.2)).mono ?_
  rintro e w3 ⟨A3, c3, rfl, hown, hb⟩
  have hI : Ints w3 A3 (l.take 18) := At.of_own hown
  have H3 := Lib.hid (And.intro hI (And.intro (H2.out.2.2.trans (hb.mono H2.out.2.2.size)) (And.intro (H2.out.2.1.below hb) (atNew_own hown))))
  clear hown hb hI
  go_wp2_with fail
  refine (gserial_any A3 (min n 18) c3 (l.take 18) _ H1.out.2.2 (by omega) H3.out.1 H3.out.2.2.2).mono ?_
  rintro e w4 ⟨A4, k4, c4, rfl, hk4, hF4, hb⟩
  have H4 := Lib.hid (And.intro hk4 (And.intro hF4 (And.intro (H3.out.2.1.trans (hb.mono H3.out.2.1.size)) (H3.out.2.2.1.below hb))))
  clear hk4 hF4 hb
  go_wp2_with fail
  refine (rlengths_any A n cap l _ H.out.1 (by omega) (H.out.2.below H4.out.2.2.1)).mono ?_
  rintro e w' ⟨rfl, rfl⟩
  have hE : roadE (l.take 18) = if lenB l then 0 else 2 := by unfold roadE; rw [lenB_take]
  rw [hE]
  clear hE
  cases hv : lenB l
  · have h1 : k2 = 0 := by rw [← H2.out.1]; unfold roadA; rw [lenB_take, hv]; rfl
    have h2 : k4 = 0 := by rw [← H4.out.1]; unfold serA; rw [lenB_take, hv]; rfl
    subst h1; subst h2
    have HB4 := Lib.hid H4.out.2.2.1
    clear hv
    go_wp2_with fail
    refine (awake_any _).mono ?_
    rintro e w5 ⟨rfl, hb5⟩
    have HB5 := Lib.hid (HB4.out.trans (hb5.mono HB4.out.size))
    clear hb5
    go_wp2_with fail
    go_ret
    exact ⟨rfl, HB5.out⟩
  · have hn4 := (lenB_iff.1 hv).1
    have h18 : l.take 18 = l := List.take_of_length_le (by omega)
    have hk2 : (roadL l).length = k2 := by have := H2.out.1; rwa [h18, roadA, if_pos hv] at this
    have hk4 : (serL l).length = k4 := by have := H4.out.1; rwa [h18, serA, if_pos hv] at this
    have hI2 : Ints w4 A2 (roadL l) := by have := H4.out.2.2.2; rwa [h18, roadA, if_pos hv] at this
    have hF4 : Fracs w4 A4 (serL l) := by have := H4.out.2.1; rwa [h18, serA, if_pos hv] at this
    have hN : (roadL l).length = 2 ^ n := by rw [roadL_length, H.out.1]
    have hS : (serL l).length = n := by rw [serL_length, H.out.1]
    have hp := (pow_of (n := n) (by have := H.out.1; omega)).2
    have hn : 1 ≤ n ∧ n ≤ 4 := by have := H.out.1; omega
    have H5 := Lib.hid (And.intro hI2 (And.intro hF4 (And.intro H4.out.2.2.1 (And.intro hN (And.intro hS (And.intro hv (And.intro hk2 hk4)))))))
    obtain ⟨N, hNe⟩ : ∃ N, N = 2 ^ n := ⟨_, rfl⟩
    rw [← hNe] at hp
    have HN := Lib.hid hNe
    clear hv h18 hI2 hF4 hN hS hk2 hk4 hn4 hNe
    go_wp2_with fail
    refine (rroad_any A n cap l _ H.out.1 (H.out.2.below H5.out.2.2.1) H5.out.2.2.2.2.2.1).mono ?_
    rintro e w6 ⟨A6, c6, rfl, hI6, hb6⟩
    rw [← HN.out]
    have H6 := Lib.hid (And.intro hI6 (And.intro (H5.out.1.below hb6) (And.intro (H5.out.2.1.below hb6) (H5.out.2.2.1.trans (hb6.mono H5.out.2.2.1.size)))))
    clear hI6 hb6
    go_wp2_with fail
    refine (equal_any A2 A6 k2 N c2 c6 (roadL l) (roadL l) _ H5.out.2.2.2.2.2.2.1 (by rw [HN.out]; exact H5.out.2.2.2.1) (by have := H5.out.2.2.2.2.2.2.1; have := H5.out.2.2.2.1; have := HN.out; omega) H6.out.2.1 H6.out.1).mono ?_
    rintro e w7 ⟨rfl, m7, rfl⟩
    have hq1 : eqB (roadL l) (roadL l) = true := decide_eq_true rfl
    rw [hq1]
    clear hq1
    have HB7 := Lib.hid (below_drewN H6.out.2.2.2 m7)
    go_wp2_with fail
    refine (rserial_any A n cap l _ H.out.1 (H.out.2.below HB7.out) H5.out.2.2.2.2.2.1).mono ?_
    rintro e w8 ⟨A8, c8, rfl, hF8, hb8⟩
    have hFx : Fracs (w6.drewN m7) A4 (serL l) := H6.out.2.2.1
    have H8 := Lib.hid (And.intro hF8 (And.intro (hFx.below hb8) (HB7.out.trans (hb8.mono HB7.out.size))))
    clear hF8 hb8 hFx
    go_wp2_with fail
    refine (equalF_any A4 A8 k4 n c4 c8 (serL l) (serL l) _ H5.out.2.2.2.2.2.2.2 H5.out.2.2.2.2.1 (by have := H5.out.2.2.2.2.2.2.2; have := H5.out.2.2.2.2.1; omega) H8.out.2.1 H8.out.1).mono ?_
    rintro e w9 ⟨rfl, m9, rfl⟩
    have hq2 : eqB (serL l) (serL l) = true := decide_eq_true rfl
    rw [hq2]
    clear hq2
    have HB9 := Lib.hid (below_drewN H8.out.2.2 m9)
    go_wp2_with fail
    refine (awake_any _).mono ?_
    rintro e w10 ⟨rfl, hb10⟩
    have HB10 := Lib.hid (HB9.out.trans (hb10.mono HB9.out.size))
    clear hb10
    go_wp2_with fail
    go_ret
    exact ⟨rfl, HB10.out⟩
end Go.Proofs.Ytbidboagaoifaaa
