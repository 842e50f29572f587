/- Laws and contracts that the proof of GamesSerial uses, part 7. -/
import Derived.Test.YtbidboagaoifaaaSValues
import Derived.Test.YtbidboagaoifaaaGamesSerialM6
import Derived.Test.YtbidboagaoifaaaGamesSerialM2
import Derived.Test.YtbidboagaoifaaaGamesSerialM5
import Derived.Test.YtbidboagaoifaaaGamesSerialM1
import Derived.Test.YtbidboagaoifaaaGamesSerialM4
namespace Go.Proofs.Ytbidboagaoifaaa
open Go.RowKit

/- Contracts: slices.Collect and Sorted over slices.Values. -/

theorem appendseq_any (Bs b cap n : Nat) (zs : List Int) (hzl : zs.length = n) (hlen : 1 ≤ n ∧ n ≤ 1000) (w : World) (hBs : Bs < w.heap.size)
    (hcs : w.cell? ⟨Bs, 0, none⟩ = some (.slice (some ⟨b, 0, none⟩) n cap)) (hb : b < w.heap.size) (hI : Ints w (some ⟨b, 0, none⟩) zs) :
    Calls Try.prog 94 #[.slice none 0 0, .func (.func 93) #[] #[.pointer (some ⟨Bs, 0, none⟩)]] w fun e W' => ∃ g c, e = .returned (.slice (some ⟨g, 0, none⟩) n c) ∧ W'.ownsRow w.heap.size 3 1 (.slice (some ⟨g, 0, none⟩) n c) n (zs.map (Value.int .i64)) ∧ Below w.heap.size w W' := by
  subst hzl
  refine (callsIn_wide (n := 3)).1 ((appendseq_in Fence.wide 3 trivial trivial rfl (Nat.le_refl _) Bs b cap zs hlen.2 w hBs hcs hb (fun j hj => ?_)).mono ?_)
  · obtain ⟨ad, had, hc⟩ := hI j (.int .i64 (zs[j]?.getD 0)) (by rw [List.getElem?_map, List.getElem?_eq_getElem hj]; rfl)
    injection had with had
    subst had
    have e : (⟨b, 0, none⟩ : Addr).add j = ⟨b, j, none⟩ := by cases j <;> simp [Addr.add]
    rwa [e] at hc
  · rintro e W' ⟨v, rfl, hown, _, hbl⟩
    obtain ⟨A', k', rfl, _, _, _⟩ := own_form hown
    obtain ⟨g, rfl, _, _⟩ := own_some hown hlen.1
    exact ⟨g, k', rfl, hown, hbl⟩

set_option maxHeartbeats 800000 in
theorem collect_any (Bs b cap n : Nat) (zs : List Int) (hzl : zs.length = n) (hlen : 1 ≤ n ∧ n ≤ 1000) (w : World) (hBs : Bs < w.heap.size)
    (hcs : w.cell? ⟨Bs, 0, none⟩ = some (.slice (some ⟨b, 0, none⟩) n cap)) (hb : b < w.heap.size) (hI : Ints w (some ⟨b, 0, none⟩) zs) :
    Calls Try.prog 91 #[.func (.func 93) #[] #[.pointer (some ⟨Bs, 0, none⟩)]] w fun e W' => ∃ g c, e = .returned (.slice (some ⟨g, 0, none⟩) n c) ∧ W'.ownsRow w.heap.size 3 1 (.slice (some ⟨g, 0, none⟩) n c) n (zs.map (Value.int .i64)) ∧ Below w.heap.size w W' := by
  have HC := Lib.hid (appendseq_any Bs b cap n zs hzl hlen w hBs hcs hb hI)
  clear hzl hcs hI
  go_enter Try.func91, Try.ntmps91
  go_wp2_with fail
  refine HC.out.mono ?_
  rintro e W ⟨g, c, rfl, hown, hbl⟩
  have HO := Lib.hid (And.intro hown hbl)
  clear hown hbl
  go_wp2_with fail
  go_ret
  exact ⟨g, c, rfl, HO.out⟩

set_option maxHeartbeats 800000 in
theorem sorted_any (Bs b cap n : Nat) (zs : List Int) (hzl : zs.length = n) (hlen : 1 ≤ n ∧ n ≤ 4) (w : World) (hBs : Bs < w.heap.size)
    (hcs : w.cell? ⟨Bs, 0, none⟩ = some (.slice (some ⟨b, 0, none⟩) n cap)) (hb : b < w.heap.size) (hI : Ints w (some ⟨b, 0, none⟩) zs) :
    Calls Try.prog 81 #[.func (.func 93) #[] #[.pointer (some ⟨Bs, 0, none⟩)]] w fun e W' => ∃ g c, e = .returned (.slice (some ⟨g, 0, none⟩) n c) ∧ W'.ownsRow w.heap.size 3 1 (.slice (some ⟨g, 0, none⟩) n c) n ((sortTo zs n).map (Value.int .i64)) ∧ Below w.heap.size w W' := by
  have HC := Lib.hid (collect_any Bs b cap n zs hzl ⟨hlen.1, by omega⟩ w hBs hcs hb hI)
  have HZ := Lib.hid hzl
  clear hzl hcs hI
  go_enter Try.func81, Try.ntmps81
  go_wp2_with fail
  refine HC.out.mono ?_
  rintro e W ⟨g, c, rfl, hown, hbl⟩
  have hpre : PreB W g n c zs ∧ w.heap.size ≤ g ∧ n ≤ c ∧ c ≤ maxLen := by
    rcases hown.2 with ⟨h0, _⟩ | ⟨g', cap', cur, hv, h1, h2, h3, h4, h5, h6⟩
    · cases h0
    · injection hv with e1 _ e3
      injection e1 with e1
      injection e1 with e1
      subst e1; subst e3
      exact ⟨⟨cur, h2, by rw [h5, Nat.mul_one], by rw [← h6, Nat.mul_one]⟩, h1, h3, h4⟩
  have HO := Lib.hid (And.intro hpre hbl)
  clear hown hbl hpre
  go_wp2_with fail
  refine (ssort_any g c n zs W HZ.out hlen HO.out.1.1).mono ?_
  rintro e w2 ⟨rfl, hp2, hk2⟩
  have H2 := Lib.hid (And.intro hp2 hk2)
  clear hp2 hk2
  go_wp2_with fail
  go_ret
  refine ⟨g, c, rfl, ?_, ?_⟩
  · obtain ⟨cur, hB, hs, ht⟩ := H2.out.1
    exact ⟨by rw [List.length_map, sortTo_length, HZ.out, Nat.mul_one], .inr ⟨g, c, cur, rfl, HO.out.1.2.1, hB, HO.out.1.2.2.1, HO.out.1.2.2.2, by rw [hs, Nat.mul_one], by rw [Nat.mul_one]; exact ht⟩⟩
  · have hsz := HO.out.2.size
    exact HO.out.2.trans (H2.out.2.mono (S' := []) hsz (fun x hx => by rw [List.mem_singleton.1 hx]; exact .inr HO.out.1.2.1)).below


/- Contract: Serial of package games. -/

/-- Serial, for every lengths. -/
def serA (l : List Int) : List Rat := if lenB l then serL l else []
theorem quo12 {m : Nat} (h : 1 ≤ m ∧ m ≤ 4) : (12 : Int).tdiv (m : Int) = 12 / (m : Int) ∧ 3 ≤ 12 / (m : Int) ∧ 12 / (m : Int) ≤ 12 := by
  have : m = 1 ∨ m = 2 ∨ m = 3 ∨ m = 4 := by omega
  rcases this with rfl | rfl | rfl | rfl <;> decide
theorem mul_small {a b m n : Int} (h1 : 0 ≤ a) (h2 : a ≤ m) (h3 : 0 ≤ b) (h4 : b ≤ n) (hm : 0 ≤ m) : 0 ≤ a * b ∧ a * b ≤ m * n :=
  ⟨Int.mul_nonneg h1 h3, Int.mul_le_mul h2 h4 h3 hm⟩
set_option maxRecDepth 100000 in
set_option maxHeartbeats 4000000 in
theorem gserial_ok (g n cap : Nat) (l : List Int) (w : World) (hl : l.length = n) (h : Ints w (some ⟨g, 0, none⟩) l) (hv : lenB l = true) :
    Calls Try.prog 52 #[.slice (some ⟨g, 0, none⟩) n cap] w fun e w' => ∃ A' c', e = .returned (.tuple #[.slice A' n c', .int .i64 0]) ∧ Fracs w' A' (serL l) ∧ Below w.heap.size w w' := by
  have hn4 := (lenB_iff.1 hv).1
  have hn : 1 ≤ n ∧ n ≤ 4 := by omega
  obtain ⟨ad, hAe, had, hc⟩ := h.some_ (by omega)
  injection hAe with hAe
  subst hAe
  have hb2 : Below w.heap.size w (w.alloc (.cells #[.slice (some ⟨g, 0, none⟩) n cap] 22)) := (Below.refl _ _).alloc (Nat.le_refl _) _
  have hBx : Blk (w.alloc (.cells #[.slice (some ⟨g, 0, none⟩) n cap] 22)) w.heap.size 22 #[.slice (some ⟨g, 0, none⟩) n cap] := Blk.new w _ _ rfl
  have HC := Lib.hid (sorted_any w.heap.size g cap n l hl hn (w.alloc (.cells #[.slice (some ⟨g, 0, none⟩) n cap] 22)) (by simp) (hBx.cell 0) (by have : g < w.heap.size := had; simp; omega) (h.below hb2))
  have H := Lib.hid (And.intro hl (And.intro h (And.intro hv (And.intro hc hb2))))
  clear hl h hv hn4 hc hb2 hBx
  go_enter Try.func52, Try.ntmps52
  go_wp2_with fail
  refine (glengths_any _ n cap l _ H.out.1 (by omega) H.out.2.1).mono ?_
  rintro e w' ⟨rfl, rfl⟩
  rw [H.out.2.2.1]
  go_wp2_with fail
  refine (values_any (some ⟨g, 0, none⟩) n cap w).mono ?_
  rintro e w2 ⟨rfl, rfl⟩
  go_wp2_with fail
  refine HC.out.mono ?_
  rintro e w3 ⟨g3, c3, rfl, hown3, hb3⟩
  have hsl : (sortTo l n).length = n := by rw [sortTo_length, H.out.1]
  have hI3 : Ints w3 (some ⟨g3, 0, none⟩) (sortTo l n) := At.of_own hown3
  have hpm := sortTo_perm l n (by rw [H.out.1]; exact Nat.le_refl _)
  have hso := sortTo_sorted l n (by rw [H.out.1]; exact Nat.le_refl _)
  obtain ⟨S, hS⟩ : ∃ S, S = sortTo l n := ⟨_, rfl⟩
  rw [← hS] at hsl hI3 hpm hso
  have hso' : ∀ a b, a < b → b < S.length → S.getD a 0 ≤ S.getD b 0 := fun a b h1 h2 => hso a b h1 (by omega)
  have hb3' : Below w.heap.size w w3 := H.out.2.2.2.2.trans (hb3.mono (by simp))
  have H3 := Lib.hid (And.intro hsl (And.intro hI3 (And.intro hpm (And.intro hso' hb3'))))
  have hw3 := hb3'.size
  clear hown3 hb3 hsl hI3 hpm hso hS hso' hb3' HC
  go_wp2_with fail
  go_loopw [5, 20] (fun ov iv wr => ∃ (k : Nat) (A : Option Addr) (cp : Nat), k ≤ n ∧ iv = .int .i64 k ∧ ov = .slice A k cp ∧ wr.ownsRow w3.heap.size 31 2 (.slice A k cp) k (fcells ((serL l).take k)) ∧ Below w3.heap.size w3 wr) (fun _ iv _ => n - (intOf iv).toNat)
  case atStart => exact ⟨0, none, 0, Nat.zero_le _, rfl, rfl, by simpa [fcells] using World.ownsRow_nil _ _ _ _, Below.refl _ _⟩
  case round =>
    obtain ⟨k, A, cp, hkn, rfl, rfl, hown, hbl⟩ := hrel
    have HR := Lib.hid (And.intro hown hbl)
    clear hown hbl
    by_cases hlt : k < n
    · obtain ⟨x, hx⟩ : ∃ x, l[k]? = some x := ⟨_, List.getElem?_eq_getElem (by rw [H.out.1]; exact hlt)⟩
      have hxb := (lenB_iff.1 H.out.2.2.1).2 x (List.mem_of_getElem? hx)
      have c0 : wr.cell? ⟨g, k, none⟩ = some (.int .i64 x) := by
        have h0 := H.out.2.2.2.1 k x hx
        rw [show (⟨g, 0, none⟩ : Addr).add k = ⟨g, k, none⟩ from by cases k <;> simp [Addr.add]] at h0
        have h1 := (H3.out.2.2.2.2.cell (lt_of_cell h0)).trans h0
        exact (HR.out.2.cell (lt_of_cell h1)).trans h1
      have hq : (serL l)[k]? = some (serQ l x.toNat) := by unfold serL; rw [List.getElem?_map, hx]; rfl
      obtain ⟨q, hqe⟩ : ∃ q, q = serQ l x.toNat := ⟨_, rfl⟩
      rw [← hqe] at hq
      have HQ := Lib.hid hqe
      have HNEW : Hid (fcells ((serL l).take (k + 1)) = fcells ((serL l).take k) ++ [.int .i64 q.num, .int .i64 (q.den : Int)]) := Lib.hid (by
        rw [List.take_add_one, hq]; exact fcells_snoc _ _)
      have HX := Lib.hid hx
      clear hx hq hqe
      go_wp2_with fail
      go_loop [8, 9, 26] (fun sv av iv => ∃ j : Nat, j ≤ n ∧ iv = .int .i64 j ∧ sv = .int .i64 (serI l (atS S j).toNat) ∧ av = .int .i64 (atS S j) ∧ ∀ i, i < j → S.getD i 0 ≤ x) (fun _ _ iv => n - (intOf iv).toNat)
      case atStart => exact ⟨0, Nat.zero_le _, rfl, rfl, rfl, fun i hi => by omega⟩
      case round =>
        obtain ⟨j, hj, rfl, rfl, rfl, hall⟩ := hrel
        have HA := Lib.hid hall
        clear hall
        by_cases hlj : j < n
        · obtain ⟨s, hs⟩ : ∃ s, S[j]? = some s := ⟨_, List.getElem?_eq_getElem (by rw [H3.out.1]; exact hlj)⟩
          have hsg : S.getD j 0 = s := by rw [List.getD_eq_getElem?_getD, hs]; rfl
          obtain ⟨p0, p1, p2⟩ := stretch H.out.2.2.1 H3.out.2.2.1 H3.out.2.2.2.1 (k := j) (by rw [H3.out.1]; exact hlj)
          rw [hsg] at p1 p2
          have hss := (lenB_iff.1 H.out.2.2.1).2 s (H3.out.2.2.1.mem_iff.1 (List.mem_of_getElem? hs))
          have hsb := serI_bd l (atS S j).toNat
          obtain ⟨q0, q1, q2⟩ := quo12 (m := n - j) (by omega)
          rw [H3.out.1] at p2
          obtain ⟨y, hy⟩ : ∃ y, y = serI l (atS S j).toNat := ⟨_, rfl⟩
          obtain ⟨a, ha⟩ : ∃ a, a = atS S j := ⟨_, rfl⟩
          have hstop : x < s → serI l (atS S j).toNat = serI l x.toNat := fun hxs => by
            rw [at_end H3.out.2.2.1 H3.out.2.2.2.1 (List.mem_of_getElem? HX.out) (k := j) (by rw [H3.out.1]; omega) HA.out (.inr (by rw [hsg]; exact hxs))]
          have hnx : atS S (j + 1) = s := hsg
          rw [← hy] at p2 hsb hstop ⊢
          rw [← ha] at p0 p1 p2 hsb ⊢
          have c1 : wr.cell? ⟨g3, j, none⟩ = some (.int .i64 s) := by
            have h0 := H3.out.2.1.some2 j (.int .i64 s) (by simp [hs])
            have e : (⟨g3, 0, none⟩ : Addr).add j = ⟨g3, j, none⟩ := by cases j <;> simp [Addr.add]
            rw [e] at h0
            exact (HR.out.2.cell (lt_of_cell h0)).trans h0
          have hz : ((n : Int) - (j : Int)) = ((n - j : Nat) : Int) := by omega
          obtain ⟨m, hme⟩ : ∃ m : Nat, m = n - j := ⟨_, rfl⟩
          rw [← hme] at q0 q1 q2 p2 hz
          obtain ⟨z, hze⟩ : ∃ z : Int, z = 12 / (m : Int) := ⟨_, rfl⟩
          rw [← hze] at q0 q1 q2 p2
          have hmb := mul_small (a := s - a) (b := z) (m := 1000) (n := 12) (by omega) (by omega) (by omega) (by omega) (by omega)
          obtain ⟨u, hue⟩ : ∃ u : Int, u = (s - a) * z := ⟨_, rfl⟩
          rw [← hue] at hmb p2
          have hyb : 0 ≤ y ∧ y ≤ 12000 := by omega
          have HS := Lib.hid (And.intro p2 (And.intro hsg (And.intro hnx hstop)))
          have e0 : (((m : Nat) : Int) == 0) = false := by simp; omega
          have e1 : IntKind.i64.wrap z = z := IntWalk.i64_in _ (by omega)
          have e2 : IntKind.i64.wrap u = u := IntWalk.i64_in _ (by omega)
          have e3 : IntKind.i64.wrap (y + u) = y + u := IntWalk.i64_in _ (by omega)
          have e4 : (s - a) * z = u := hue.symm
          have hm14 : 1 ≤ m ∧ m ≤ 4 := by omega
          clear p2 hsg hnx hstop hs hy ha hsb hze hue hme
          by_cases hgt : x < s
          · have hyx := HS.out.2.2.2 hgt
            have HY := Lib.hid hyx
            clear hyx
            have hfq : Rat.divInt y 12 = q := by rw [HY.out, HQ.out]; rfl
            have HFQ := Lib.hid hfq
            clear hfq
            go_wp2_with fail
            refine (gfrac_any y 12 _ (by omega) (by omega) (by omega) (by omega)).mono ?_
            rintro e w4 ⟨rfl, hb4⟩
            rw [HFQ.out]
            have hown4 := own_below HR.out.1 hb4
            have hbl4 : Below w3.heap.size w3 w4 := HR.out.2.trans (hb4.mono HR.out.2.size)
            have HR4 := Lib.hid (And.intro hown4 hbl4)
            have hw4 : w3.heap.size ≤ w4.heap.size := hbl4.size
            clear hown4 hbl4 hb4
            unfold fr
            go_wp2_with (at_builtin; refine app1 sty_frac rfl _ _ rfl w3.heap.size A k cp _ #[.int .i64 q.num, .int .i64 (q.den : Int)] rfl (by simp [Value.oneCell']) rfl HR4.out.1 rfl (by omega) hw4 ?_)
            intro A5 k5 w5 hown5 _ hbl5 hk51 hk52
            rw [← HNEW.out] at hown5
            have HR5 := Lib.hid (And.intro hown5 (HR4.out.2.trans hbl5))
            clear hown5 hbl5
            go_wp2
            go_roundw
            case rel => exact ⟨k + 1, A5, k5, by omega, by go_num, rfl, HR5.out.1, HR5.out.2⟩
            case measure => simp [intOf]; omega
          · have hle : s ≤ x := by omega
            go_wp2_with fail
            go_round
            case rel => exact ⟨j + 1, by omega, by go_num, val_int (by rw [HS.out.2.2.1]; exact HS.out.1.symm), val_int HS.out.2.2.1.symm, fun i hi => by
              rcases Nat.lt_or_ge i j with h | h
              · exact HA.out i h
              · rw [show i = j by omega, HS.out.2.1]; exact hle⟩
            case measure => simp [intOf]; omega
        · obtain rfl : j = n := by omega
          have hsb := serI_bd l (atS S j).toNat
          have hat := at_end H3.out.2.2.1 H3.out.2.2.2.1 (List.mem_of_getElem? HX.out) (k := j) (by rw [H3.out.1]; exact Nat.le_refl _) HA.out (.inl H3.out.1.symm)
          rw [hat] at hsb ⊢
          obtain ⟨y, hy⟩ : ∃ y, y = serI l x.toNat := ⟨_, rfl⟩
          rw [← hy] at hsb ⊢
          have hyb : 0 ≤ y ∧ y ≤ 12000 := by omega
          have HY := Lib.hid hy
          clear hy hsb hat hlj
          have hfq : Rat.divInt y 12 = q := by rw [HY.out, HQ.out]; rfl
          have HFQ := Lib.hid hfq
          clear hfq
          go_wp2_with fail
          refine (gfrac_any y 12 _ (by omega) (by omega) (by omega) (by omega)).mono ?_
          rintro e w4 ⟨rfl, hb4⟩
          rw [HFQ.out]
          have hown4 := own_below HR.out.1 hb4
          have hbl4 : Below w3.heap.size w3 w4 := HR.out.2.trans (hb4.mono HR.out.2.size)
          have HR4 := Lib.hid (And.intro hown4 hbl4)
          have hw4 : w3.heap.size ≤ w4.heap.size := hbl4.size
          clear hown4 hbl4 hb4
          unfold fr
          go_wp2_with (at_builtin; refine app1 sty_frac rfl _ _ rfl w3.heap.size A k cp _ #[.int .i64 q.num, .int .i64 (q.den : Int)] rfl (by simp [Value.oneCell']) rfl HR4.out.1 rfl (by omega) hw4 ?_)
          intro A5 k5 w5 hown5 _ hbl5 hk51 hk52
          rw [← HNEW.out] at hown5
          have HR5 := Lib.hid (And.intro hown5 (HR4.out.2.trans hbl5))
          clear hown5 hbl5
          go_wp2
          go_roundw
          case rel => exact ⟨k + 1, A5, k5, by omega, by go_num, rfl, HR5.out.1, HR5.out.2⟩
          case measure => simp [intOf]; omega
    · obtain rfl : k = n := by omega
      go_wp2_with fail
      go_ret2
      have hF : Fracs wr A ((serL l).take k) := At.of_own HR.out.1
      rw [List.take_of_length_le (by rw [serL_length, H.out.1]; exact Nat.le_refl _)] at hF
      exact ⟨A, cp, rfl, hF, H3.out.2.2.2.2.trans (HR.out.2.mono hw3)⟩

/-- Where a slice that a call made lies. -/
def AtNew (A : Option Addr) : Prop := ∀ ad, A = some ad → ∃ g, ad = ⟨g, 0, none⟩
theorem atNew_own {w : World} {base e size n c : Nat} {A : Option Addr} {xs : List Value} (h : w.ownsRow base e size (.slice A n c) n xs) : AtNew A := by
  intro ad hA
  rcases h.2 with ⟨h0, _⟩ | ⟨g, cap, cur, hv, _⟩
  · injection h0 with h0; rw [hA] at h0; cases h0
  · injection hv with e1
    rw [hA] at e1
    injection e1 with e1
    exact ⟨g, e1⟩
theorem gserial_any (A : Option Addr) (n cap : Nat) (l : List Int) (w : World) (hl : l.length = n) (hm : n ≤ 9223372036854775807) (h : Ints w A l) (hA : AtNew A) :
    Calls Try.prog 52 #[.slice A n cap] w fun e w' => ∃ A' k c', e = .returned (.tuple #[.slice A' k c', .int .i64 (roadE l)]) ∧ (serA l).length = k ∧ Fracs w' A' (serA l) ∧ Below w.heap.size w w' := by
  cases hv : lenB l
  · have HV := Lib.hid hv
    clear hv
    go_enter Try.func52, Try.ntmps52
    go_wp2_with fail
    refine (glengths_any A n cap l _ hl hm h).mono ?_
    rintro e w' ⟨rfl, rfl⟩
    rw [HV.out]
    go_wp2_with fail
    go_ret2
    exact ⟨none, 0, 0, by unfold roadE; rw [HV.out]; rfl, by unfold serA; rw [HV.out]; rfl, by unfold serA; rw [HV.out]; exact At.nil, Below.refl _ _⟩
  · have hn4 := (lenB_iff.1 hv).1
    obtain ⟨ad, hAe, _⟩ := h.some_ (by omega)
    obtain ⟨g, rfl⟩ := hA ad hAe
    subst hAe
    refine (gserial_ok g n cap l w hl h hv).mono ?_
    rintro e w' ⟨A', c', rfl, hF, hb⟩
    exact ⟨A', n, c', by unfold roadE; rw [hv]; rfl, by unfold serA; rw [hv, if_pos rfl, serL_length, hl], by unfold serA; rw [hv, if_pos rfl]; exact hF, hb⟩

/- Shapley of the costs of a road: plain Lean. -/

/-- One unit of the road: who drives there is in M. -/
def uL (n M : Nat) : List Int := (List.range (2 ^ n)).map fun s => if s &&& M = 0 then 0 else 1
theorem uL_get {n M s : Nat} (h : s < 2 ^ n) : (uL n M).getD s 0 = if s &&& M = 0 then 0 else 1 := by
  unfold uL
  rw [List.getD_eq_getElem?_getD, List.getElem?_map, List.getElem?_range h]
  rfl
def popc (n M : Nat) : Nat := ((List.range n).filter fun i => M.testBit i).length
def unitOk (n M : Nat) : Bool := (List.range n).all fun i => 12 * (sumsL (uL n M) n).getD i 0 == (((ext n n []).length : Nat) : Int) * (if M.testBit i then 12 / (popc n M : Int) else 0)
theorem unit_ok1 : ∀ M, M < 2 → unitOk 1 M = true := by decide +kernel
theorem unit_ok2 : ∀ M, M < 4 → unitOk 2 M = true := by decide +kernel
theorem unit_ok3 : ∀ M, M < 8 → unitOk 3 M = true := by decide +kernel
theorem unit_ok4 : ∀ M, M < 16 → unitOk 4 M = true := by decide +kernel
theorem unit_ok {n M : Nat} (hn : 1 ≤ n ∧ n ≤ 4) (h : M < 2 ^ n) : unitOk n M = true := by
  match n, hn, h with
  | 1, _, h => exact unit_ok1 M h
  | 2, _, h => exact unit_ok2 M h
  | 3, _, h => exact unit_ok3 M h
  | 4, _, h => exact unit_ok4 M h
theorem unit_shap {n M i : Nat} (hn : 1 ≤ n ∧ n ≤ 4) (h : M < 2 ^ n) (hi : i < n) : (shapL (uL n M) n).getD i 0 = Rat.divInt (if M.testBit i then 12 / (popc n M : Int) else 0) 12 := by
  have hu := unit_ok hn h
  unfold unitOk at hu
  have hu := List.all_eq_true.1 hu i (List.mem_range.2 hi)
  rw [beq_iff_eq] at hu
  have hF := (ext_len hn.2).1
  have hlen : (sumsL (uL n M) n).length = n := by have := shapL_length (uL n M) n; unfold shapL at this; simpa using this
  unfold shapL
  rw [List.getD_eq_getElem?_getD, List.getElem?_map, List.getElem?_eq_getElem (by rw [hlen]; exact hi)]
  rw [List.getD_eq_getElem?_getD, List.getElem?_eq_getElem (by rw [hlen]; exact hi)] at hu
  simp only [Option.map_some, Option.getD_some] at hu ⊢
  rw [Rat.divInt_eq_divInt_iff (by omega) (by omega)]
  rw [Int.mul_comm, hu, Int.mul_comm]
/-- Every yes or no of the first n is a set. -/
theorem mask_of (f : Nat → Bool) : ∀ n, ∃ M, M < 2 ^ n ∧ ∀ i, i < n → M.testBit i = f i := by
  intro n
  induction n with
  | zero => exact ⟨0, by simp, fun i h => by omega⟩
  | succ n ih =>
    obtain ⟨M, hM, hi⟩ := ih
    have hp : (2 : Nat) ^ (n + 1) = 2 ^ n + 2 ^ n := by rw [Nat.pow_succ]; omega
    cases hf : f n with
    | false =>
      refine ⟨M, by omega, fun i h => ?_⟩
      by_cases e : i = n
      · subst e; rw [hf]; exact Nat.testBit_lt_two_pow hM
      · exact hi i (by omega)
    | true =>
      refine ⟨2 ^ n + M, by omega, fun i h => ?_⟩
      by_cases e : i = n
      · subst e
        rw [Nat.testBit_two_pow_add_eq, hf, Nat.testBit_lt_two_pow hM]; rfl
      · rw [Nat.testBit_two_pow_add_gt (by omega)]
        exact hi i (by omega)
/-- Lengths, cut at T. -/
def capL (l : List Int) (T : Nat) : List Int := l.map fun x => min x T
theorem capL_length (l : List Int) (T : Nat) : (capL l T).length = l.length := by simp [capL]
theorem capL_get {l : List Int} (T i : Nat) : (capL l T).getD i 0 = min (l.getD i 0) T := by
  unfold capL
  rw [List.getD_eq_getElem?_getD, List.getElem?_map, List.getD_eq_getElem?_getD]
  cases l[i]? <;> simp
  omega
theorem maxTo_cap {l : List Int} (s T k : Nat) : maxTo (capL l T) s k = min (maxTo l s k) T := by
  induction k with
  | zero => simp [maxTo]; omega
  | succ k ih =>
    simp only [maxTo, ih, capL_get]
    split <;> omega
theorem maxTo_lt {l : List Int} (s k T : Nat) : (T : Int) < maxTo l s k ↔ ∃ i, i < k ∧ s.testBit i = true ∧ (T : Int) < l.getD i 0 := by
  induction k with
  | zero => simp [maxTo]
  | succ k ih =>
    simp only [maxTo]
    have hm : ∀ a b : Int, (T : Int) < max a b ↔ (T : Int) < a ∨ (T : Int) < b := fun a b => by omega
    rw [hm, ih]
    constructor
    · rintro (⟨i, h1, h2, h3⟩ | h)
      · exact ⟨i, by omega, h2, h3⟩
      · split at h
        · exact ⟨k, by omega, by assumption, h⟩
        · omega
    · rintro ⟨i, h1, h2, h3⟩
      by_cases e : i = k
      · subst e; right; rw [if_pos h2]; exact h3
      · exact .inl ⟨i, by omega, h2, h3⟩
theorem and_zero {s M n : Nat} (hs : s < 2 ^ n) : s &&& M = 0 ↔ ∀ i, i < n → ¬ (s.testBit i = true ∧ M.testBit i = true) := by
  constructor
  · rintro h i _ ⟨h1, h2⟩
    have : (s &&& M).testBit i = true := by rw [Nat.testBit_and, h1, h2]; rfl
    rw [h] at this
    simp at this
  · intro h
    apply Nat.eq_of_testBit_eq
    intro i
    rw [Nat.testBit_and, Nat.zero_testBit]
    by_cases hi : i < n
    · have := h i hi
      cases h1 : s.testBit i <;> cases h2 : M.testBit i <;> simp_all
    · rw [Nat.testBit_lt_two_pow (Nat.lt_of_lt_of_le hs (Nat.pow_le_pow_right (by omega) (by omega)))]; rfl
theorem cap_step {l : List Int} {T M s : Nat} (hM : ∀ i, i < l.length → M.testBit i = decide ((T : Int) < l.getD i 0)) (hs : s < 2 ^ l.length) : (roadL (capL l (T + 1))).getD s 0 = (roadL (capL l T)).getD s 0 + (uL l.length M).getD s 0 := by
  rw [roadL_get (by rw [capL_length]; exact hs), roadL_get (by rw [capL_length]; exact hs), capL_length, capL_length, maxTo_cap, maxTo_cap, uL_get hs]
  have h1 := maxTo_lt (l := l) s l.length T
  by_cases h : s &&& M = 0
  · rw [if_pos h]
    have h2 := (and_zero hs).1 h
    have : ¬ (T : Int) < maxTo l s l.length := by
      rw [h1]
      rintro ⟨i, hi, hb, hlt⟩
      exact h2 i hi ⟨hb, by rw [hM i hi]; exact decide_eq_true hlt⟩
    omega
  · rw [if_neg h]
    have : (T : Int) < maxTo l s l.length := by
      rw [h1]
      by_cases hex : ∃ i, i < l.length ∧ s.testBit i = true ∧ (T : Int) < l.getD i 0
      · exact hex
      · exfalso
        refine h ((and_zero hs).2 fun i hi hb => hex ⟨i, hi, hb.1, ?_⟩)
        have := hb.2
        rw [hM i hi] at this
        exact of_decide_eq_true this
    omega
theorem cap_shap {l : List Int} (hv : lenB l = true) : ∀ T i, i < l.length → (shapL (roadL (capL l T)) l.length).getD i 0 = serQ l (min (l.getD i 0).toNat T) := by
  have hn := (lenB_iff.1 hv).1
  intro T
  induction T with
  | zero =>
    intro i hi
    have hz : ∀ s, s < 2 ^ l.length → (roadL (capL l 0)).getD s 0 = 0 := fun s hs => by
      rw [roadL_get (by rw [capL_length]; exact hs), maxTo_cap]
      have : 0 ≤ maxTo l s (capL l 0).length := (maxTo_bd hv _ _).1
      omega
    have hl : (roadL (capL l 0)).length = 2 ^ l.length := by rw [roadL_length, capL_length]
    have := sums_add hn hl hl hl (fun s hs => by rw [hz s hs]; rfl) i hi
    rw [Nat.min_zero]
    have h0 : serQ l 0 = 0 := serQ_zero l
    rw [h0]
    grind
  | succ T ih =>
    intro i hi
    obtain ⟨M, hM, hbit⟩ := mask_of (fun i => decide ((T : Int) < l.getD i 0)) l.length
    have hp : popc l.length M = cnt l T := by
      rw [cnt_range]
      unfold popc
      congr 1
      exact List.filter_congr fun i hi => hbit i (List.mem_range.1 hi)
    have hg := (getD_len hv i).1
    rw [sums_add hn (by rw [roadL_length, capL_length]) (by simp [uL]) (by rw [roadL_length, capL_length]) (fun s hs => cap_step hbit hs) i hi, ih i hi, unit_shap hn hM hi, hp, hbit i hi]
    by_cases hlt : (T : Int) < l.getD i 0
    · rw [if_pos (decide_eq_true hlt), show min (l.getD i 0).toNat T = T by omega, show min (l.getD i 0).toNat (T + 1) = T + 1 by omega]
      unfold serQ
      rw [add_same]
      rfl
    · rw [if_neg (by simpa using hlt), show min (l.getD i 0).toNat (T + 1) = min (l.getD i 0).toNat T by omega]
      have : Rat.divInt 0 12 = 0 := Rat.zero_divInt _
      rw [this, Rat.add_zero]
theorem road_shap {l : List Int} (hv : lenB l = true) : shapL (roadL l) l.length = serL l := by
  have e : capL l 1000 = l := by
    unfold capL
    conv => rhs; rw [← List.map_id l]
    refine List.map_congr_left fun x hx => ?_
    have := (lenB_iff.1 hv).2 x hx
    simp only [id]
    omega
  apply List.ext_getElem?
  intro i
  by_cases hi : i < l.length
  · have := cap_shap hv 1000 i hi
    rw [e] at this
    have h0 := (getD_len hv i)
    rw [show min (l.getD i 0).toNat 1000 = (l.getD i 0).toNat by omega] at this
    rw [List.getElem?_eq_getElem (by rw [shapL_length]; exact hi), List.getElem?_eq_getElem (by rw [serL_length]; exact hi)]
    rw [List.getD_eq_getElem?_getD, List.getElem?_eq_getElem (by rw [shapL_length]; exact hi)] at this
    congr 1
    refine Eq.trans this ?_
    unfold serL
    rw [List.getElem_map, List.getD_eq_getElem?_getD, List.getElem?_eq_getElem hi]
    rfl
  · rw [List.getElem?_eq_none (by rw [shapL_length]; omega), List.getElem?_eq_none (by rw [serL_length]; omega)]

/- GamesConvex returns true for every costs and order: the walk. -/

def shapQ (c : List Int) : List Rat := if valC c then shapL c (plr c) else []
def shapE (c : List Int) : Int := if valC c then 0 else 2
theorem shapley2_any (A : Option Addr) (n cap : Nat) (c : List Int) (w : World) (hl : c.length = n) (hm : n ≤ 9223372036854775807) (h : Ints w A c) :
    Calls Try.prog 18 #[.slice A n cap] w fun e w' => ∃ A' k c', e = .returned (.tuple #[.slice A' k c', .int .i64 (shapE c)]) ∧ (shapQ c).length = k ∧ Fracs w' A' (shapQ c) ∧ Below w.heap.size w w' := by
  refine (shapley_any A n cap c w hl hm h).mono ?_
  rintro e w' ⟨A', k, c', ec, rfl, ⟨hv, rfl, rfl, hown⟩ | ⟨hv, rfl, rfl, rfl, rfl⟩, hb⟩
  · have e1 : shapQ c = shapL c (plr c) := by simp [shapQ, hv]
    refine ⟨A', plr c, c', by simp [shapE, hv], by rw [e1]; simp [shapL, sumsL, addAll_length], ?_, hb⟩
    rw [e1]
    exact At.of_own hown
  · refine ⟨none, 0, 0, by simp [shapE, hv], by simp [shapQ, hv], ?_, hb⟩
    have e1 : shapQ c = [] := by simp [shapQ, hv]
    rw [e1]
    intro i v hv
    simp [fcells] at hv
theorem shapQ_take (c : List Int) : shapQ (c.take 18) = shapQ c := by
  cases hv : valC c
  · simp [shapQ, hv, valC_take]
  · rw [take18 (by have := (valC_iff.1 hv).1; omega)]
theorem shapE_take (c : List Int) : shapE (c.take 18) = shapE c := by unfold shapE; rw [valC_take]
theorem small_bd {qs : List Rat} (h : ∀ q ∈ qs, smallQ q) : ∀ p ∈ qs.map pr, (-9223372036854775808 ≤ p.1 ∧ p.1 ≤ 9223372036854775807) ∧ -9223372036854775808 ≤ p.2 ∧ p.2 ≤ 9223372036854775807 := by
  intro p hp
  obtain ⟨q, hq, rfl⟩ := List.mem_map.1 hp
  have := h q hq
  unfold smallQ at this
  have := den_pos q
  unfold pr
  dsimp only
  omega

set_option maxRecDepth 100000 in
set_option maxHeartbeats 4000000 in
theorem law_convex (A : Option Addr) (n cap : Nat) (c : List Int) (O : Option Addr) (m capo : Nat) (l : List Int) (w : World)
    (hl : c.length = n) (hcp : n ≤ cap) (hm : cap ≤ 9223372036854775807) (hc : Ints w A c) (_ : ∀ x ∈ c, -9223372036854775808 ≤ x ∧ x ≤ 9223372036854775807)
    (hlo : l.length = m) (hmo : m ≤ capo) (hco : capo ≤ 9223372036854775807) (ho : Ints w O l) (_ : ∀ x ∈ l, -9223372036854775808 ≤ x ∧ x ≤ 9223372036854775807) :
    Calls Try.prog 15 #[.slice A n cap, .slice O m capo] w fun e w' => e = .returned (.bool true) ∧ Below w.heap.size w w' := by
  have H := Lib.hid (And.intro hl (And.intro hc (And.intro hlo ho)))
  clear hl hc hlo ho
  go_enter Try.func15, Try.ntmps15
  go_wp2_with fail
  refine (list_any A n cap c _ H.out.1 hcp hm H.out.2.1).mono ?_
  rintro e w1 ⟨A1, c1, rfl, hown, hb⟩
  have hI : Ints w1 A1 (c.take 18) := At.of_own hown
  have hlt : (c.take 18).length = min n 18 := by rw [List.length_take, H.out.1]; omega
  have H1 := Lib.hid (And.intro hI (And.intro hb hlt))
  clear hown hb hI hlt
  go_wp2_with fail
  refine (concave2_any A1 (min n 18) c1 (c.take 18) _ H1.out.2.2 (by omega) H1.out.1).mono ?_
  rintro e w2 ⟨rfl, hb2⟩
  rw [concA_take]
  have HB2 := Lib.hid (H1.out.2.1.trans (hb2.mono H1.out.2.1.size))
  clear hb2
  cases hv : valC c
  · have HG : Hid (concA c = (0, 0, 2)) := Lib.hid (by simp [concA, hv])
    rw [HG.out]
    clear hv
    dsimp only
    go_wp2_with fail
    refine (awake_any _).mono ?_
    rintro e w3 ⟨rfl, hb3⟩
    have HB3 := Lib.hid (HB2.out.trans (hb3.mono HB2.out.size))
    clear hb3
    go_wp2_with fail
    go_ret
    exact ⟨rfl, HB3.out⟩
  · have hp := valC_pow hv
    have hcb := (valC_iff.1 hv).2.2
    have hlen := (valC_iff.1 hv).1
    have hn16 : 2 ≤ n ∧ n ≤ 16 := by have := H.out.1; omega
    obtain ⟨ad, rfl, _, hc0⟩ := H.out.2.1.some_ (by omega)
    have HV := Lib.hid (And.intro hv (And.intro hp hcb))
    rcases concL_cases c with ⟨a, b, hab, ha, hb, hbad⟩ | ⟨hab, hno⟩
    · have HG : Hid (concA c = (a, b, 0)) := Lib.hid (by simp [concA, hv, hab])
      rw [HG.out]
      rw [H.out.1] at ha hb
      have hor : a ||| b < n := by
        rw [← H.out.1, hp.1]; exact Nat.or_lt_two_pow (by rw [← hp.1, H.out.1]; exact ha) (by rw [← hp.1, H.out.1]; exact hb)
      have hand : a &&& b < n := and_lt ha
      obtain ⟨s1, hs1⟩ : ∃ s, s = a ||| b := ⟨_, rfl⟩
      obtain ⟨s2, hs2⟩ : ∃ s, s = a &&& b := ⟨_, rfl⟩
      have e1 := or_nat a b (by omega) (by omega)
      have e2 := and_nat a b (by omega) (by omega)
      rw [← hs1] at e1 hor
      rw [← hs2] at e2 hand
      have hlc := H.out.1
      obtain ⟨y1, hy1⟩ : ∃ y, c[s1]? = some y := ⟨_, List.getElem?_eq_getElem (by omega)⟩
      obtain ⟨y2, hy2⟩ : ∃ y, c[s2]? = some y := ⟨_, List.getElem?_eq_getElem (by omega)⟩
      obtain ⟨y3, hy3⟩ : ∃ y, c[a]? = some y := ⟨_, List.getElem?_eq_getElem (by omega)⟩
      obtain ⟨y4, hy4⟩ : ∃ y, c[b]? = some y := ⟨_, List.getElem?_eq_getElem (by omega)⟩
      have b1 := hcb y1 (List.mem_of_getElem? hy1)
      have b2 := hcb y2 (List.mem_of_getElem? hy2)
      have b3 := hcb y3 (List.mem_of_getElem? hy3)
      have b4 := hcb y4 (List.mem_of_getElem? hy4)
      have c1' : ∀ s : Desc w2, s.val.cell? (ad.add s1) = some (.int .i64 y1) := fun s => s.cell ((HB2.out.cell (lt_of_cell (hc0 _ _ hy1))).trans (hc0 _ _ hy1))
      have c2' : ∀ s : Desc w2, s.val.cell? (ad.add s2) = some (.int .i64 y2) := fun s => s.cell ((HB2.out.cell (lt_of_cell (hc0 _ _ hy2))).trans (hc0 _ _ hy2))
      have c3' : ∀ s : Desc w2, s.val.cell? (ad.add a) = some (.int .i64 y3) := fun s => s.cell ((HB2.out.cell (lt_of_cell (hc0 _ _ hy3))).trans (hc0 _ _ hy3))
      have c4' : ∀ s : Desc w2, s.val.cell? (ad.add b) = some (.int .i64 y4) := fun s => s.cell ((HB2.out.cell (lt_of_cell (hc0 _ _ hy4))).trans (hc0 _ _ hy4))
      have hlt : y3 + y4 < y1 + y2 := by
        unfold badB at hbad
        rw [← hs1, ← hs2, List.getD_eq_getElem?_getD, List.getD_eq_getElem?_getD, List.getD_eq_getElem?_getD, List.getD_eq_getElem?_getD, hy1, hy2, hy3, hy4] at hbad
        exact of_decide_eq_true hbad
      have v1 : IntKind.i64.wrap (y1 + y2) = y1 + y2 := IntWalk.i64_in _ (by omega)
      have v2 : IntKind.i64.wrap (y3 + y4) = y3 + y4 := IntWalk.i64_in _ (by omega)
      have hd : decide (y3 + y4 < y1 + y2) = true := by simpa using hlt
      have la : ¬ (a : Int) < 0 := by omega
      have lb : ¬ (b : Int) < 0 := by omega
      have lga : decide ((a : Int) ≥ (n : Int)) = false := by simp; omega
      have lgb : decide ((b : Int) ≥ (n : Int)) = false := by simp; omega
      have HAW : Hid (∀ s : Desc w2, Calls Try.prog 21 #[] s.val fun e w'' => e = .returned (.bool true) ∧ ∃ s' : Desc w2, w'' = s'.val) := Lib.hid fun s => Calls.desc_of (awake_any _)
      clear hbad hy1 hy2 hy3 hy4 hs1 hs2 hv hc0 hp hcb hlen hab hlc
      dsimp only
      go_wp2_with fail
      refine wp_region_desc (by kernel_rfl) (by kernel_rfl) ?_
      repeat (go_big_quiet_step (first | (go_at_call 21; exact HAW.out _)))
      refine wpQuiet_nil ?_
      rintro _ ⟨sd, rfl⟩
      have HBE := Lib.hid (HB2.out.trans (sd.below.mono HB2.out.size))
      clear c1' c2' c3' c4'
      go_wp2_with fail
      go_ret
      exact ⟨rfl, HBE.out⟩
    · have HC := Lib.hid (conc_of hno)
      have HG : Hid (concA c = (0, 0, 4)) := Lib.hid (by simp [concA, hv, hab])
      rw [HG.out]
      clear hab hno hc0 hcb hlen
      dsimp only
      go_wp2_with fail
      refine (list_any (some ad) n cap c _ H.out.1 hcp hm (H.out.2.1.below HB2.out)).mono ?_
      rintro e w3 ⟨A3, c3, rfl, hown, hb⟩
      have hI : Ints w3 A3 (c.take 18) := At.of_own hown
      have H3 := Lib.hid (And.intro hI (HB2.out.trans (hb.mono HB2.out.size)))
      clear hown hb hI
      go_wp2_with fail
      refine (shapley2_any A3 (min n 18) c3 (c.take 18) _ H1.out.2.2 (by omega) H3.out.1).mono ?_
      rintro e w4 ⟨A4, k4, c4, rfl, hk, hF, hb⟩
      rw [shapQ_take] at hk hF
      have hsq : shapQ c = shapL c (plr c) := by simp [shapQ, hv]
      have hse : shapE (c.take 18) = 0 := by rw [shapE_take]; simp [shapE, hv]
      have hcs := shap_cc hv HC.out
      rw [hse]
      rw [hsq] at hk hF
      have hk4 : k4 ≤ 4 := by
        rw [← hk]; simp [shapL, sumsL, addAll_length]; exact hp.2.2
      have H4 := Lib.hid (And.intro hk (And.intro hF (And.intro (H3.out.2.trans (hb.mono H3.out.2.size)) (And.intro hcs (small_bd (shapL_small HV.out.2.2 hp.2.2))))))
      clear hk hF hb hsq hse hcs
      go_wp2_with fail
      refine (list_any (some ad) n cap c _ H.out.1 hcp hm (H.out.2.1.below H4.out.2.2.1)).mono ?_
      rintro e w5 ⟨A5, c5, rfl, hown, hb⟩
      have hI : Ints w5 A5 (c.take 18) := At.of_own hown
      have H5 := Lib.hid (And.intro hI (And.intro (H4.out.2.2.1.trans (hb.mono H4.out.2.2.1.size)) (H4.out.2.1.below hb)))
      clear hown hb hI
      go_wp2_with fail
      refine (checkcore_any A5 (min n 18) c5 A4 k4 c4 (c.take 18) ((shapL c (plr c)).map pr) _ H1.out.2.2 (by omega) (by rw [List.length_map]; exact H4.out.1) (by omega) H5.out.1 H5.out.2.2.prs H4.out.2.2.2.2).mono ?_
      rintro e w6 ⟨rfl, hb6⟩
      have hce : ccE c = 0 := by simp [ccE, hv]
      rw [ccB_take18, ccE_take, H4.out.2.2.2.1.1, hce]
      have HCE := Lib.hid hce
      have HB6 := Lib.hid (H5.out.2.1.trans (hb6.mono H5.out.2.1.size))
      clear hb6 hce
      go_wp2_with fail
      refine (list_any (some ad) n cap c _ H.out.1 hcp hm (H.out.2.1.below HB6.out)).mono ?_
      rintro e w7 ⟨A7, c7, rfl, hown, hb⟩
      have hI : Ints w7 A7 (c.take 18) := At.of_own hown
      have H7 := Lib.hid (And.intro hI (HB6.out.trans (hb.mono HB6.out.size)))
      clear hown hb hI
      go_wp2_with fail
      refine (refute2_any A7 (min n 18) c7 (c.take 18) _ H1.out.2.2 (by omega) H7.out.1).mono ?_
      rintro e w8 ⟨A8, k8, c8, rfl, _, _, _, _, hb8⟩
      have hrf : rfE (c.take 18) = 4 := by rw [rfE_take]; simp [rfE, hv, H4.out.2.2.2.1.2]
      rw [hrf]
      have HB8 := Lib.hid (H7.out.2.trans (hb8.mono H7.out.2.size))
      clear hb8 hrf
      go_wp2_with fail
      refine (list_any (some ad) n cap c _ H.out.1 hcp hm (H.out.2.1.below HB8.out)).mono ?_
      rintro e w9 ⟨A9, c9, rfl, hown, hb⟩
      have hI : Ints w9 A9 (c.take 18) := At.of_own hown
      have H9 := Lib.hid (And.intro hI (HB8.out.trans (hb.mono HB8.out.size)))
      clear hown hb hI
      go_wp2_with fail
      refine (list_any O m capo l _ H.out.2.2.1 hmo hco (H.out.2.2.2.below H9.out.2)).mono ?_
      rintro e w10 ⟨A10, c10, rfl, hown, hb⟩
      have hI : Ints w10 A10 (l.take 18) := At.of_own hown
      have hlt : (l.take 18).length = min m 18 := by rw [List.length_take, H.out.2.2.1]; omega
      have H10 := Lib.hid (And.intro hI (And.intro (H9.out.2.trans (hb.mono H9.out.2.size)) (And.intro hlt (H9.out.1.below hb))))
      clear hown hb hI hlt
      go_wp2_with fail
      refine (join2_any A9 (min n 18) c9 A10 (min m 18) c10 c l _ H1.out.2.2 H10.out.2.2.1 H10.out.2.2.2 H10.out.1).mono ?_
      rintro e w11 ⟨A11, k11, c11, rfl, hk, hJ, hb⟩
      cases hor : ordR (plr c) l
      · have hje : joinE c l = 2 := by simp [joinE, hv, hor]
        have H11 := Lib.hid (H10.out.2.1.trans (hb.mono H10.out.2.1.size))
        rw [hje]
        clear hk hJ hb hje hor hv
        go_wp2_with fail
        refine (awake_any _).mono ?_
        rintro e w12 ⟨rfl, hb12⟩
        have HB12 := Lib.hid (H11.out.trans (hb12.mono H11.out.size))
        clear hb12
        go_wp2_with fail
        go_ret
        exact ⟨rfl, HB12.out⟩
      · have hje : joinE c l = 0 := by simp [joinE, hv, hor]
        rw [hv, hor] at hk
        have hk' : k11 = plr c := hk
        have hjc := joinA_core hv HC.out hor
        have hk4' : k11 ≤ 4 := by rw [hk']; exact hp.2.2
        have H11 := Lib.hid (And.intro (H10.out.2.1.trans (hb.mono H10.out.2.1.size)) (And.intro hJ (And.intro hjc hk')))
        rw [hje]
        clear hk hJ hb hje hor hv hk' hjc hp
        go_wp2_with fail
        have hst := H11.out.1
        go_loopw [15, 128] (fun ov iv wr => ∃ (j : Nat) (B : Option Addr) (bc : Nat), j ≤ k11 ∧ iv = .int .i64 j ∧ ov = .slice B j bc ∧ wr.ownsRow w11.heap.size 31 2 (.slice B j bc) j (fcells (wholes ((joinA c l).take j))) ∧ Below w11.heap.size w11 wr) (fun _ iv _ => k11 - (intOf iv).toNat)
        case atStart => exact ⟨0, none, 0, Nat.zero_le _, rfl, rfl, World.ownsRow_nil _ _ _ _, Below.refl _ _⟩
        case round =>
          obtain ⟨j, B, bc, hj, rfl, rfl, hown, hbl⟩ := hrel
          have HR := Lib.hid (And.intro hown hbl)
          clear hown
          by_cases hlt : j < k11
          · have hjl : (joinA c l).length = k11 := by rw [H11.out.2.2.1.1, H11.out.2.2.2]
            obtain ⟨aj, rfl, _, hcj⟩ := H11.out.2.1.some_ (by omega)
            obtain ⟨y, hy⟩ : ∃ y, (joinA c l)[j]? = some y := ⟨_, List.getElem?_eq_getElem (by omega)⟩
            have g1 := (hbl.cell (lt_of_cell (hcj _ _ hy))).trans (hcj _ _ hy)
            have HNEW : Hid (fcells (wholes ((joinA c l).take (j + 1))) = fcells (wholes ((joinA c l).take j)) ++ [.int .i64 y, .int .i64 1]) := Lib.hid (by
              rw [List.take_add_one, hy]
              unfold wholes
              rw [List.map_append]
              exact fcells_snoc _ _)
            clear hbl hst hcj hy hjl
            go_wp2_with fail
            refine (lwhole_any y _).mono ?_
            rintro e w12 ⟨rfl, hb12⟩
            rw [fr_int]
            have HR2 := Lib.hid (And.intro (own_below HR.out.1 hb12) (HR.out.2.trans (hb12.mono HR.out.2.size)))
            clear hb12
            have hw12 := HR2.out.2.size
            go_wp2_with (at_builtin; refine app1 sty_frac rfl _ _ rfl w11.heap.size B j bc _ #[.int .i64 y, .int .i64 1] rfl (by simp [Value.oneCell']) rfl HR2.out.1 rfl (by omega) hw12 ?_)
            intro A13 k13 w13 hown13 _ hbl13 hk131 hk132
            rw [← HNEW.out] at hown13
            have HR4 := Lib.hid (And.intro hown13 (HR2.out.2.trans hbl13))
            clear hown13 hbl13
            go_wp2_with fail
            go_roundw
            case rel => exact ⟨j + 1, A13, k13, by omega, by go_num, rfl, HR4.out.1, HR4.out.2⟩
            case measure => simp [intOf]; omega
          · obtain rfl : j = k11 := by omega
            have hjl : (joinA c l).length = j := by rw [H11.out.2.2.1.1, H11.out.2.2.2]
            have hF : Fracs wr B (wholes (joinA c l)) := by
              have := At.of_own HR.out.1
              rw [List.take_of_length_le (by omega)] at this
              exact this
            have hsm : ∀ q ∈ wholes (joinA c l), smallQ q := by
              intro q hq
              obtain ⟨y, hy, rfl⟩ := List.mem_map.1 hq
              have := H11.out.2.2.1.2.2 y hy
              unfold smallQ
              rw [Rat.den_intCast, Rat.num_intCast]
              omega
            have HF := Lib.hid (And.intro hF (And.intro (small_bd hsm) (And.intro (H11.out.1.trans (hbl.mono H11.out.1.size)) hjl)))
            clear hF hsm hbl hst hjl
            go_wp2_with fail
            refine (list_any (some ad) n cap c _ H.out.1 hcp hm (H.out.2.1.below HF.out.2.2.1)).mono ?_
            rintro e w14 ⟨A14, c14, rfl, hown, hb⟩
            have hI : Ints w14 A14 (c.take 18) := At.of_own hown
            have H14 := Lib.hid (And.intro hI (And.intro (HF.out.2.2.1.trans (hb.mono HF.out.2.2.1.size)) (HF.out.1.below hb)))
            clear hown hb hI
            go_wp2_with fail
            refine (checkcore_any A14 (min n 18) c14 B j bc (c.take 18) ((wholes (joinA c l)).map pr) _ H1.out.2.2 (by omega) (by rw [List.length_map]; unfold wholes; rw [List.length_map]; exact HF.out.2.2.2) (by omega) H14.out.1 H14.out.2.2.prs HF.out.2.1).mono ?_
            rintro e w15 ⟨rfl, hb15⟩
            rw [ccB_take18, ccE_take, H11.out.2.2.1.2.1, HCE.out]
            have HB15 := Lib.hid (H14.out.2.1.trans (hb15.mono H14.out.2.1.size))
            clear hb15
            go_wp2_with fail
            refine (awake_any _).mono ?_
            rintro e w16 ⟨rfl, hb16⟩
            have HB16 := Lib.hid (HB15.out.trans (hb16.mono HB15.out.size))
            clear hb16
            go_wp2_with fail
            go_ret
            exact ⟨rfl, HB16.out⟩

/- GamesSerial returns true for every lengths: the walk. -/

set_option maxRecDepth 100000 in
set_option maxHeartbeats 1600000 in
theorem law_serial (A : Option Addr) (n cap : Nat) (l : List Int) (w : World) (hl : l.length = n) (hcp : n ≤ cap) (hm : cap ≤ 9223372036854775807) (hc : Ints w A l)
    (_ : ∀ x ∈ l, -9223372036854775808 ≤ x ∧ x ≤ 9223372036854775807) :
    Calls Try.prog 17 #[.slice A n cap] w fun e w' => e = .returned (.bool true) ∧ Below w.heap.size w w' := by
  have H := Lib.hid (And.intro hl hc)
  clear hl hc
  go_enter Try.func17, Try.ntmps17
  go_wp2_with fail
  refine (list_any A n cap l _ H.out.1 hcp hm H.out.2).mono ?_
  rintro e w1 ⟨A1, c1, rfl, hown, hb⟩
  have hI : Ints w1 A1 (l.take 18) := At.of_own hown
  have hlt : (l.take 18).length = min n 18 := by rw [List.length_take, H.out.1]; omega
  have H1 := Lib.hid (And.intro hI (And.intro hb hlt))
  clear hown hb hI hlt
  go_wp2_with fail
  refine (groad_any A1 (min n 18) c1 (l.take 18) _ H1.out.2.2 (by omega) H1.out.1).mono ?_
  rintro e w2 ⟨A2, k2, c2, rfl, hk2, hI2, hb⟩
  have H2 := Lib.hid (And.intro hk2 (And.intro hI2 (H1.out.2.1.trans (hb.mono H1.out.2.1.size))))
  clear hk2 hI2 hb
  go_wp2_with fail
  refine (list_any A n cap l _ H.out.1 hcp hm (H.out.2.below H2.out.2.2)).mono ?_
  rintro e w3 ⟨A3, c3, rfl, hown, hb⟩
  have hI : Ints w3 A3 (l.take 18) := At.of_own hown
  have H3 := Lib.hid (And.intro hI (And.intro (H2.out.2.2.trans (hb.mono H2.out.2.2.size)) (And.intro (H2.out.2.1.below hb) (atNew_own hown))))
  clear hown hb hI
  go_wp2_with fail
  refine (gserial_any A3 (min n 18) c3 (l.take 18) _ H1.out.2.2 (by omega) H3.out.1 H3.out.2.2.2).mono ?_
  rintro e w4 ⟨A4, k4, c4, rfl, hk4, hF4, hb⟩
  have H4 := Lib.hid (And.intro hk4 (And.intro hF4 (And.intro (H3.out.2.1.trans (hb.mono H3.out.2.1.size)) (H3.out.2.2.1.below hb))))
  clear hk4 hF4 hb
  have hE : roadE (l.take 18) = if lenB l then 0 else 2 := by unfold roadE; rw [lenB_take]
  rw [hE]
  clear hE
  cases hv : lenB l
  · have HB4 := Lib.hid H4.out.2.2.1
    clear hv
    go_wp2_with fail
    refine (awake_any _).mono ?_
    rintro e w5 ⟨rfl, hb5⟩
    have HB5 := Lib.hid (HB4.out.trans (hb5.mono HB4.out.size))
    clear hb5
    go_wp2_with fail
    go_ret
    exact ⟨rfl, HB5.out⟩
  · have hn4 := (lenB_iff.1 hv).1
    have h18 : l.take 18 = l := List.take_of_length_le (by omega)
    have hk2 : (roadL l).length = k2 := by have := H2.out.1; rwa [h18, roadA, if_pos hv] at this
    have hk4 : (serL l).length = k4 := by have := H4.out.1; rwa [h18, serA, if_pos hv] at this
    have hI2 : Ints w4 A2 (roadL l) := by have := H4.out.2.2.2; rwa [h18, roadA, if_pos hv] at this
    have hF4 : Fracs w4 A4 (serL l) := by have := H4.out.2.1; rwa [h18, serA, if_pos hv] at this
    have hp := (pow_of (n := l.length) hn4).2
    have hk16 : k2 ≤ 16 := by rw [← hk2, roadL_length]; exact hp.2
    have hk44 : k4 ≤ 4 := by rw [← hk4, serL_length]; omega
    have hsh : shapQ (roadL l) = serL l := by
      unfold shapQ
      rw [if_pos (road_valid hv), road_plr hv, road_shap hv]
    have hco := road_conc hv
    have hse : shapE (roadL l) = 0 := by unfold shapE; rw [if_pos (road_valid hv)]
    have H5 := Lib.hid (And.intro hI2 (And.intro hF4 (And.intro H4.out.2.2.1 (And.intro hk2 (And.intro hk4 (And.intro hsh (And.intro hco hse)))))))
    clear hv h18 hI2 hF4 hk2 hk4 hn4 hp hsh hco hse
    go_wp2_with fail
    refine (concave2_any A2 k2 c2 (roadL l) _ H5.out.2.2.2.1 (by omega) H5.out.1).mono ?_
    rintro e w6 ⟨rfl, hb6⟩
    rw [H5.out.2.2.2.2.2.2.1]
    have H6 := Lib.hid (And.intro (H5.out.1.below hb6) (And.intro (H5.out.2.1.below hb6) (H5.out.2.2.1.trans (hb6.mono H5.out.2.2.1.size))))
    clear hb6
    go_wp2_with fail
    refine (shapley2_any A2 k2 c2 (roadL l) _ H5.out.2.2.2.1 (by omega) H6.out.1).mono ?_
    rintro e w7 ⟨A7, k7, c7, rfl, hk7, hF7, hb7⟩
    rw [H5.out.2.2.2.2.2.2.2]
    rw [H5.out.2.2.2.2.2.1] at hk7 hF7
    have H7 := Lib.hid (And.intro hk7 (And.intro hF7 (And.intro (H6.out.2.1.below hb7) (H6.out.2.2.trans (hb7.mono H6.out.2.2.size)))))
    clear hk7 hF7 hb7
    go_wp2_with fail
    refine (equalF_any A4 A7 k4 k7 c4 c7 (serL l) (serL l) _ H5.out.2.2.2.2.1 H7.out.1 (by omega) H7.out.2.2.1 H7.out.2.1).mono ?_
    rintro e w9 ⟨rfl, m9, rfl⟩
    have hq2 : eqB (serL l) (serL l) = true := decide_eq_true rfl
    rw [hq2]
    clear hq2
    have HB9 := Lib.hid (below_drewN H7.out.2.2.2 m9)
    go_wp2_with fail
    refine (awake_any _).mono ?_
    rintro e w10 ⟨rfl, hb10⟩
    have HB10 := Lib.hid (HB9.out.trans (hb10.mono HB9.out.size))
    clear hb10
    go_wp2_with fail
    go_ret
    exact ⟨rfl, HB10.out⟩
end Go.Proofs.Ytbidboagaoifaaa
