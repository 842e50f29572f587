/- Laws and contracts that the proof of TopBird uses, part 3. -/
import Derived.Test.YtifmekijdepokaaDoorTopBirdM2
import Derived.Laws.EntriesVeiled
import Derived.Test.YtifmekijdepokaaDoorTopBirdM1
import Derived.Test.YtifmekijdepokaaDoorProg
import Derived.KernelRfl
import Derived.StillTailTactics
import Derived.Deep.RegionHeld3
namespace Go.Proofs.YtifmekijdepokaaDoor
open Go.RowKit

/- Contract: the inner function of orders, whole. -/

theorem GX.fix.drewN {X : GX} {w : World} (h : X.fix w) (n : Nat) : X.fix (w.drewN n) := ⟨h.size, h.bcb, h.bfb, h.bg, h.bk, h.bs, h.hc⟩
theorem GX.acc.drewN {X : GX} {cnt : Int} {sums : List Int} {w : World} (h : X.acc cnt sums w) (n : Nat) : X.acc cnt sums (w.drewN n) := ⟨h.bc, h.bS, h.c0, h.sl, h.sb⟩
theorem GX.pre.drewN {X : GX} {pre : List Nat} {w : World} (h : X.pre pre w) (n : Nat) : X.pre pre (w.drewN n) := h

/-- The loop's relation. -/
structure GX.rel (X : GX) (pre : List Nat) (m : Nat) (cnt : Int) (sums : List Int) (w : World) (i : Nat) (wr : World) : Prop where
  acc : X.acc (cnt + (extTo X.n m pre i).length) (addAll X.c X.n sums (extTo X.n m pre i)) wr
  pre : X.pre pre wr
  kept : Kept X.base [X.Bo, X.Bc, X.S] w wr

theorem mem_nats (pre : List Nat) (i : Nat) : has (pre.map Int.ofNat) (i : Int) = decide (i ∈ pre) := by
  unfold has
  rw [decide_eq_decide, List.mem_map]
  constructor
  · rintro ⟨x, hx, h⟩
    obtain rfl : x = i := by have h2 : (x : Int) = (i : Int) := h; omega
    exact hx
  · intro h; exact ⟨i, h, rfl⟩
theorem nats_ints (pre : List Nat) : nats pre = (pre.map Int.ofNat).map (Value.int .i64) := by simp [nats]

set_option maxHeartbeats 1600000 in
theorem grow_any (X : GX) (hx : X.ok) (m : Nat) : ∀ (pre : List Nat) (cnt : Int) (sums : List Int) (w : World), pre.length + m = X.n → (∀ x ∈ pre, x < X.n) → X.fix w → X.acc cnt sums w → X.pre pre w → cnt + (ext X.n m pre).length ≤ 1000 →
    Calls Tryd.prog 54 #[.pointer (some ⟨X.Bo, 0, none⟩), .pointer (some ⟨X.Bcb, 0, none⟩), .pointer (some ⟨X.Bfb, 0, none⟩), .pointer (some ⟨X.Bg, 0, none⟩)] w fun e w' =>
      e = .returned (.tuple #[]) ∧ X.post pre cnt sums (ext X.n m pre) w w' := by
  induction m with
  | zero =>
    intro pre cnt sums w hpl hpn hf ha hp hcnt
    exact grow_full X hx pre cnt sums w (by omega) hpn hf ha hp (by simp [ext] at hcnt; omega)
  | succ m ih =>
    intro pre cnt sums w hpl hpn hf ha hp hcnt
    have IH := Lib.hid ih
    have hne : ((pre.length : Int) == (X.n : Int)) = false := by simp; omega
    obtain ⟨A, k, hbo, hown, hk1, hk2⟩ := hp
    obtain ⟨o1, o2⟩ := hbo.at1
    obtain ⟨q1, q2⟩ := hf.bcb.at1
    have hn4 := hx.hn
    have hn0 := hx.hn0
    have HNP := Lib.hid hx.np
    have HH := Lib.hid (And.intro hx (And.intro hf (And.intro ha (And.intro hown (And.intro hpn (And.intro hcnt hbo))))))
    have HPL := Lib.hid hpl
    clear hx hf ha hown hpn hpl hbo ih hcnt
    go_enter Tryd.func54, Tryd.ntmps54
    go_wp2_with fail
    go_quiet ((go_at_call 24; exact players_q _ _ _ _ _ _ HNP.out))
    go_wp2_with fail
    refine (players_any _ _ _ _ _ HNP.out).mono ?_
    rintro e w' ⟨rfl, rfl⟩
    go_wp2_with fail
    go_loopw [15] (fun iv wr => ∃ i : Nat, i ≤ X.n ∧ iv = .int .i64 i ∧ X.rel pre m cnt sums w i wr) (fun iv _ => X.n - (intOf iv).toNat)
    case atStart =>
      obtain ⟨hx, hf, ha, hown, hpn, hcnt, hbo⟩ := HH.out
      exact ⟨0, Nat.zero_le _, rfl, ⟨by simpa [extTo, addAll] using ha.drewN nq, ⟨A, k, hbo, hown, hk1, hk2⟩, (Kept.refl _ _ _).drewN _⟩⟩
    case round =>
      obtain ⟨i, hin, rfl, hR⟩ := hrel
      obtain ⟨hx, hf, ha, hown, hpn, hcnt, hbo⟩ := HH.out
      have HF := Lib.hid (hf.kept hx hR.kept)
      obtain ⟨A2, k2, hbo2, hown2, hk21, hk22⟩ := hR.pre
      obtain ⟨p1, p2⟩ := hbo2.at1
      have HR := Lib.hid hR
      have HO2 := Lib.hid (And.intro hown2 hbo2)
      clear hx hf ha hown hpn hcnt hbo hR hown2 hbo2
      by_cases hlt : i < X.n
      · by_cases hm : i ∈ pre
        · have HM := Lib.hid hm
          have hmem : has (pre.map Int.ofNat) (i : Int) = true := by rw [mem_nats]; simp [hm]
          clear hm
          go_wp2_with fail
          refine (contains_any A2 pre.length k2 (pre.map Int.ofNat) i _ (by simp) (by omega) (by unfold Ints; rw [← nats_ints]; exact At.of_own HO2.out.1)).mono ?_
          rintro e w' ⟨rfl, rfl⟩
          go_wp2
          go_roundw
          case rel =>
            have hR := HR.out
            exact ⟨i + 1, by omega, by go_num, ⟨by rw [extTo_succ, if_pos HM.out, List.append_nil]; exact hR.acc, hR.pre, hR.kept⟩⟩
          case measure => simp [intOf]; omega
        · have HM := Lib.hid hm
          have hmem : has (pre.map Int.ofNat) (i : Int) = false := by rw [mem_nats]; simp [hm]
          clear hm
          have hpl4 : pre.length ≤ 4 := by have := HPL.out; omega
          go_wp2_with fail
          refine (contains_any A2 pre.length k2 (pre.map Int.ofNat) i _ (by simp) (by omega) (by unfold Ints; rw [← nats_ints]; exact At.of_own HO2.out.1)).mono ?_
          rintro e w' ⟨rfl, rfl⟩
          have hbase := HF.out.size
          go_wp2_with (at_builtin; refine app1 sty_int rfl _ _ rfl X.base A2 pre.length k2 (nats pre) #[.int .i64 (i : Int)] rfl (by simp [Value.oneCell']) rfl HO2.out.1 rfl (by omega) hbase ?_)
          intro A3 k3 w3 hown3 _ hbl3 hk31 hk32
          have hx := HH.out.1
          have hbo3 : Blk w3 X.Bo 22 #[.slice A2 pre.length k2] := HO2.out.2.below hbl3 (hx.lt X.Bo (by simp))
          obtain ⟨s1, s2⟩ := hbo3.at1
          have hf3 : X.fix w3 := HF.out.kept hx (Kept.of_below hbl3 _)
          have hbo4 := hbo3.set_ 0 (.slice A3 (pre.length + 1) k3)
          have hlb := hx.lt X.Bo (by simp)
          have K4 : Kept X.base [X.Bo, X.Bc, X.S] w3 (w3.setCell ⟨X.Bo, 0, none⟩ (.slice A3 (pre.length + 1) k3)) := (Kept.refl _ _ _).setCell (.inl (by simp)) _
          have hf4 := hf3.kept hx K4
          obtain ⟨g1, g2⟩ := hf4.bg.at1
          have K0 : Kept X.base [X.Bo, X.Bc, X.S] w (w3.setCell ⟨X.Bo, 0, none⟩ (.slice A3 (pre.length + 1) k3)) := (HR.out.kept.trans (Kept.of_below hbl3 _)).trans K4
          have hacc : X.acc (cnt + (extTo X.n m pre i).length) (addAll X.c X.n sums (extTo X.n m pre i)) (w3.setCell ⟨X.Bo, 0, none⟩ (.slice A3 (pre.length + 1) k3)) := by
            have h := HR.out.acc
            exact ⟨(h.bc.below hbl3 (hx.lt X.Bc (by simp))).far (by exact fun e => hx.n1 e.symm) _, (h.bS.below hbl3 (hx.lt X.S (by simp))).far (by exact fun e => hx.n2 e.symm) _, h.c0, h.sl, h.sb⟩
          have hpre : X.pre (pre ++ [i]) (w3.setCell ⟨X.Bo, 0, none⟩ (.slice A3 (pre.length + 1) k3)) := by
            refine ⟨A3, k3, ?_, ?_, by simp; omega, hk32⟩
            · simpa using hbo4
            · rw [nats_snoc, List.length_append]
              exact own_setCell hown3 (by exact hlb) _
          have H4 := Lib.hid (And.intro hf4 (And.intro K0 (And.intro hacc hpre)))
          clear hown3 hbl3 hbo3 hf3 hbo4 K4 hf4 K0 hacc hpre hx hbase
          go_wp2_with fail
          obtain ⟨hf4, K0, hacc, hpre⟩ := H4.out
          have hle := extTo_le X.n m pre (i + 1) X.n (by omega)
          rw [extTo_succ, if_neg HM.out, List.length_append] at hle
          refine (IH.out (pre ++ [i]) _ _ _ (by simp; have := HPL.out; omega) (by
            intro x hxm
            rcases List.mem_append.1 hxm with h | h
            · exact HH.out.2.2.2.2.1 x h
            · simp at h; omega) hf4 hacc hpre (by have := HH.out.2.2.2.2.2.1; rw [ext_eq] at this; omega)).mono ?_
          rintro e w5 ⟨rfl, hpost⟩
          clear hf4 K0 hacc hpre hle
          obtain ⟨A6, k6, hbo6, hown6, hk61, hk62⟩ := hpost.pre
          rw [List.length_append, List.length_singleton] at hbo6 hown6 hk61
          rw [nats_snoc] at hown6
          obtain ⟨t1, t2⟩ := hbo6.at1
          have HP := Lib.hid hpost
          have HO6 := Lib.hid (And.intro (own_pop hown6) hbo6)
          clear hown6 hpost hbo6
          go_wp2
          go_roundw
          case rel =>
            have hx := HH.out.1
            have hpo := HP.out
            obtain ⟨hf4, K0, hacc, hpre⟩ := H4.out
            have K5 : Kept X.base [X.Bo, X.Bc, X.S] w5 (w5.setCell ⟨X.Bo, 0, none⟩ (.slice A6 pre.length k6)) := (Kept.refl _ _ _).setCell (.inl (by simp)) _
            have h := hpo.acc
            have e1 : cnt + (extTo X.n m pre (i + 1)).length = cnt + (extTo X.n m pre i).length + (ext X.n m (pre ++ [i])).length := by
              rw [extTo_succ, if_neg HM.out, List.length_append]; omega
            have e2 : addAll X.c X.n sums (extTo X.n m pre (i + 1)) = addAll X.c X.n (addAll X.c X.n sums (extTo X.n m pre i)) (ext X.n m (pre ++ [i])) := by
              rw [extTo_succ, if_neg HM.out, addAll_append]
            refine ⟨i + 1, by omega, by go_num, ⟨?_, ⟨A6, k6, ?_, ?_, by omega, hk62⟩, (K0.trans hpo.kept).trans K5⟩⟩
            · rw [e1, e2]
              exact ⟨h.bc.far (by exact fun e => hx.n1 e.symm) _, h.bS.far (by exact fun e => hx.n2 e.symm) _, h.c0, h.sl, h.sb⟩
            · exact HO6.out.2.set_ 0 _
            · exact own_setCell HO6.out.1 (by exact hx.lt X.Bo (by simp)) _
          case measure => simp [intOf]; omega
      · obtain rfl : i = X.n := by omega
        go_wp2
        go_end0
        have hR := HR.out
        exact ⟨rfl, ⟨by rw [ext_eq]; exact hR.acc, hR.pre, hR.kept⟩⟩

/- Contract: orders of package games, called with the function of games.Shapley. -/

set_option maxHeartbeats 800000 in
theorem orders_any (ac : Addr) (N cap n Bc Bk Bs S : Nat) (c : List Int) (sums : List Int) (w : World)
    (hn : n ≤ 4) (hn0 : 1 ≤ n) (hN : N = 2 ^ n) (hl : c.length = N) (hsl : sums.length = n) (hcb : ∀ x ∈ c, 0 ≤ x ∧ x ≤ 1000) (hsb : ∀ y ∈ sums, y = 0)
    (hL : (ext n n []).length ≤ 1000)
    (hc : ∀ i x, c[i]? = some x → w.cell? (ac.add i) = some (.int .i64 x)) (hac : ac.block < w.heap.size)
    (bc : Blk w Bc 3 #[.int .i64 0]) (bk : Blk w Bk 64 #[.slice (some ac) N cap]) (bs : Blk w Bs 22 #[.slice (some ⟨S, 0, none⟩) n n]) (bS : Blk w S 3 (arr sums))
    (n1 : ac.block ≠ Bc) (n2 : ac.block ≠ S) (n5 : S ≠ Bc) (m1 : Bs ≠ Bc) (m2 : Bs ≠ S) (m3 : Bk ≠ Bc) (m4 : Bk ≠ S) :
    Calls Tryd.prog 25 #[.slice (some ac) N cap, .func (.func 26) #[] #[.pointer (some ⟨Bc, 0, none⟩), .pointer (some ⟨Bk, 0, none⟩), .pointer (some ⟨Bs, 0, none⟩)]] w fun e w' =>
      e = .returned (.tuple #[]) ∧ Blk w' Bc 3 #[.int .i64 ((ext n n []).length : Nat)] ∧ Blk w' S 3 (arr (addAll c n sums (ext n n []))) ∧ (∀ y ∈ addAll c n sums (ext n n []), -1000000 ≤ y ∧ y ≤ 1000000) ∧ Kept w.heap.size [Bc, S] w w' := by
  obtain ⟨X, hX⟩ : ∃ X : GX, X = { ac := ac, N := N, cap := cap, n := n, Bc := Bc, Bk := Bk, Bs := Bs, S := S, Bo := w.heap.size + 1 + 1, Bcb := w.heap.size, Bfb := w.heap.size + 1, Bg := w.heap.size + 1 + 1 + 1, base := w.heap.size + 4, c := c } := ⟨_, rfl⟩
  have l1 := bc.lt
  have l2 := bk.lt
  have l3 := bs.lt
  have l4 := bS.lt
  have hx : X.ok := by
    subst hX
    exact ⟨hn, hn0, hN, hl, hcb, n1, n2, by show ac.block ≠ w.heap.size + 1 + 1; omega, by show ac.block < w.heap.size + 4; omega, by
      intro x hx
      simp only [List.mem_cons, List.not_mem_nil, or_false] at hx ⊢
      rcases hx with rfl | rfl | rfl | rfl | rfl <;> simp <;> omega, by show w.heap.size + 1 + 1 ≠ Bc; omega, by show w.heap.size + 1 + 1 ≠ S; omega, n5, by
      intro x hx
      simp only [List.mem_cons, List.not_mem_nil, or_false] at hx
      rcases hx with rfl | rfl | rfl | rfl | rfl | rfl | rfl | rfl <;> simp <;> omega⟩
  have HX := Lib.hid hX
  have H := Lib.hid (And.intro hx (And.intro hc (And.intro hac (And.intro bc (And.intro bk (And.intro bs (And.intro bS (And.intro hsl (And.intro hsb hL)))))))))
  clear hx hc bc bk bs bS hX hN hl hcb hsl hsb hL
  go_enter Tryd.func25, Tryd.ntmps25
  go_wp2_with fail
  have hX := HX.out
  obtain ⟨hx, hc, hac, bc, bk, bs, bS, hsl, hsb, hL⟩ := H.out
  subst hX
  have K4 : ∀ o1 o2 o3 o4, Below w.heap.size w ((((w.alloc o1).alloc o2).alloc o3).alloc o4) := fun o1 o2 o3 o4 =>
    ((((Below.refl _ _).alloc (by go_size) _).alloc (by go_size) _).alloc (by go_size) _).alloc (by go_size) _
  refine (grow_any _ hx n [] 0 sums _ (by simp) (by simp) ?fix ?acc ?pre (by show (0 : Int) + ((ext n n []).length : Nat) ≤ 1000; omega)).mono ?_
  case fix =>
    exact {
      size := by simp
      bcb := (((Blk.new _ _ _ rfl).alloc _).alloc _).alloc _
      bfb := ((Blk.new _ _ _ (by simp)).alloc _).alloc _
      bg := Blk.new _ _ _ (by simp)
      bk := bk.below (K4 _ _ _ _) l2
      bs := bs.below (K4 _ _ _ _) l3
      hc := fun i x hi => ((K4 _ _ _ _).cell (lt_of_cell (hc i x hi))).trans (hc i x hi) }
  case acc => exact ⟨bc.below (K4 _ _ _ _) l1, bS.below (K4 _ _ _ _) l4, by omega, hsl, fun y hy => by have := hsb y hy; omega⟩
  case pre => exact ⟨none, 0, (Blk.new _ _ _ (by simp)).alloc _, World.ownsRow_nil _ _ _ _, by simp, by omega⟩
  rintro e w' ⟨rfl, hp⟩
  have HP := Lib.hid (And.intro hp (K4 (.cells #[.slice (some ac) N cap] 64) (.cells #[.func (.func 26) #[] #[.pointer (some ⟨Bc, 0, none⟩), .pointer (some ⟨Bk, 0, none⟩), .pointer (some ⟨Bs, 0, none⟩)]] 68) (.cells #[.slice none 0 0] 22) (.cells #[.func (.func 54) #[] #[.pointer (some ⟨w.heap.size + 1 + 1, 0, none⟩), .pointer (some ⟨w.heap.size, 0, none⟩), .pointer (some ⟨w.heap.size + 1, 0, none⟩), .pointer (some ⟨w.heap.size + 1 + 1 + 1, 0, none⟩)]] 1)))
  clear hp hx hc hac bc bk bs bS hsl hsb hL
  go_wp2
  go_end0
  obtain ⟨hp, hb⟩ := HP.out
  obtain ⟨_, _, _, _, _, _, _, _, _, hL⟩ := H.out
  refine ⟨rfl, by simpa using hp.acc.bc, hp.acc.bS, fun y hy => by have h1 : -(1000 * (0 + ((ext n n []).length : Int))) ≤ y ∧ y ≤ 1000 * (0 + ((ext n n []).length : Int)) := hp.acc.sb y hy; omega, (Kept.of_below hb _).trans (hp.kept.mono (by simp) ?_)⟩
  intro x hx
  simp only [List.mem_cons, List.not_mem_nil, or_false] at hx ⊢
  rcases hx with rfl | rfl | rfl
  · exact .inr (by show w.heap.size ≤ w.heap.size + 1 + 1; omega)
  · exact .inl (.inl rfl)
  · exact .inl (.inr rfl)

/- Fractions in lowest terms are rational numbers: the plain law behind the walks over api.Frac. No program. -/

/-- A rational number as the program's fraction. -/
def fr (q : Rat) : Value := .agg #[.int .i64 q.num, .int .i64 (q.den : Int)]

theorem gcd_nat (a b : Int) : (Int.gcd a b : Int) = Nat.gcd a.natAbs b.natAbs := rfl
theorem gcd_step (a b : Int) : Int.gcd b (a.tmod b) = Int.gcd a b := by
  unfold Int.gcd
  rw [Int.natAbs_tmod, Nat.gcd_comm a.natAbs, ← Nat.gcd_rec b.natAbs a.natAbs |>.symm, Nat.gcd_comm]
theorem gcd_pos {a b : Int} (h : 0 < b) : 0 < (Int.gcd a b : Int) := by
  have := Int.gcd_pos_of_ne_zero_right a (show b ≠ 0 by omega); omega
theorem gcd_le {a b : Int} (h : 0 < b) : (Int.gcd a b : Int) ≤ b := by
  have h1 : Int.gcd a b ≤ b.natAbs := Nat.gcd_le_right _ (by omega)
  omega
theorem div_num {a b : Int} (h : 0 < b) : a.tdiv (Int.gcd a b) = (Rat.divInt a b).num := by
  rw [Rat.num_divInt, Int.gcd_comm b a, Int.sign_eq_one_of_pos h, Int.one_mul]
  exact Int.tdiv_eq_ediv_of_dvd (Int.gcd_dvd_left a b)
theorem div_den {a b : Int} (h : 0 < b) : b.tdiv (Int.gcd a b) = ((Rat.divInt a b).den : Int) := by
  rw [Rat.den_divInt, if_neg (by omega), Int.gcd_comm b a, Int.tdiv_eq_ediv_of_dvd (Int.gcd_dvd_right a b)]
  obtain ⟨n, rfl⟩ := Int.eq_ofNat_of_zero_le (Int.le_of_lt h)
  simp
theorem tdiv_bd {a g : Int} {m : Int} (h1 : -m ≤ a) (h2 : a ≤ m) : -m ≤ a.tdiv g ∧ a.tdiv g ≤ m := by
  have h3 : (a.tdiv g).natAbs ≤ a.natAbs := by rw [Int.natAbs_tdiv]; exact Nat.div_le_self _ _
  omega
theorem divInt_bd {a b : Int} (h : 0 < b) {m : Int} (h1 : -m ≤ a) (h2 : a ≤ m) : -m ≤ (Rat.divInt a b).num ∧ (Rat.divInt a b).num ≤ m := by
  rw [← div_num h]; exact tdiv_bd h1 h2
theorem divInt_den_le {a b : Int} (h : 0 < b) : ((Rat.divInt a b).den : Int) ≤ b := by
  rw [← div_den h]
  have := gcd_pos (a := a) h
  rw [Int.tdiv_eq_ediv_of_nonneg (by omega)]
  exact Int.ediv_le_self _ (by omega)
theorem fr_inj {p q : Rat} : fr p = fr q ↔ p = q := by
  constructor
  · intro h
    simp only [fr, Value.agg.injEq, Array.mk.injEq, List.cons.injEq, Value.int.injEq, true_and, and_true] at h
    exact Rat.ext h.1 (by omega)
  · rintro rfl; rfl
theorem den_pos (q : Rat) : 0 < (q.den : Int) := by have := q.den_pos; omega
theorem add_divInt (p q : Rat) : Rat.divInt (p.num * q.den + q.num * p.den) (p.den * q.den) = p + q := by
  rw [Rat.add_def', ← Rat.divInt_ofNat]; simp
theorem sub_divInt (p q : Rat) : Rat.divInt (p.num * q.den - q.num * p.den) (p.den * q.den) = p - q := by
  rw [Rat.sub_def', ← Rat.divInt_ofNat]; simp
theorem mul_divInt (p q : Rat) : Rat.divInt (p.num * q.num) (p.den * q.den) = p * q := by
  rw [Rat.mul_def', ← Rat.divInt_ofNat]; simp
theorem less_iff (p q : Rat) : decide (p.num * q.den < q.num * p.den) = decide (p < q) := by
  rw [decide_eq_decide]; exact (Rat.lt_iff p q).symm
/-- A pair in lowest terms is a rational number. -/
theorem lowest_rat {a b : Int} (h : 0 < b) (hg : Int.gcd a b = 1) : ∃ q : Rat, q.num = a ∧ (q.den : Int) = b := by
  refine ⟨Rat.divInt a b, ?_, ?_⟩
  · rw [← div_num h, hg]; simp
  · rw [← div_den h, hg]; simp
theorem rat_lowest (q : Rat) : Int.gcd q.num q.den = 1 := q.reduced
/-- A small product. -/
theorem mul_bd {a b m n : Int} (h1 : -m ≤ a) (h2 : a ≤ m) (h3 : 0 ≤ b) (h4 : b ≤ n) : -(m * n) ≤ a * b ∧ a * b ≤ m * n := by
  have hm : 0 ≤ m := by omega
  have ha : a.natAbs ≤ m.natAbs := by omega
  have hb : b.natAbs ≤ n.natAbs := by omega
  have h := Nat.mul_le_mul ha hb
  rw [← Int.natAbs_mul, ← Int.natAbs_mul] at h
  have : 0 ≤ m * n := Int.mul_nonneg hm (by omega)
  omega

/- Slices of fractions for the laws of append. -/

theorem info_frac : (Tryd.prog.info? 41).map (fun i => (i.zero, i.size, i.bytes)) = some (some (.agg #[.int .i64 0, .int .i64 0]), 2, 16) := by kernel_rfl
theorem sty_frac : STy 35 41 (.agg #[.int .i64 0, .int .i64 0]) 2 16 := ⟨Tryd.underlying35, info_frac, rfl, by decide, by decide⟩

/- Contracts of the fractions of the references (package corrodyref04): gcd, Of, Add, Sub, Mul, Less, Lowest. -/

/-! arith -/

/- Contracts: Less, Lowest, whole, and the gcd and frac of package games. -/

/-- What Lowest answers of any pair. -/
def lowB (a b : Int) : Bool := decide (1 ≤ b) && decide (-4611686018427387904 < a) && ((Int.gcd a b : Int) == 1)

theorem fr_int (n : Int) : fr (n : Rat) = .agg #[.int .i64 n, .int .i64 1] := rfl

set_option maxHeartbeats 400000 in
theorem ggcd_any (a b : Int) (w : World) (ha : -9223372036854775807 ≤ a) (ha' : a ≤ 9223372036854775807) (hb : -9223372036854775807 ≤ b) (hb' : b ≤ 9223372036854775807) :
    Calls Tryd.prog 50 #[.int .i64 a, .int .i64 b] w fun e w' => e = .returned (.int .i64 (Int.gcd a b)) ∧ ∃ n, w' = w.drewN n := by
  go_enter Tryd.func50, Tryd.ntmps50
  go_wp2
  go_loopw [0, 1] (fun x y wr => ∃ a' b' : Int, x = .int .i64 a' ∧ y = .int .i64 b' ∧ -9223372036854775807 ≤ a' ∧ a' ≤ 9223372036854775807 ∧ -9223372036854775807 ≤ b' ∧ b' ≤ 9223372036854775807 ∧ Int.gcd a' b' = Int.gcd a b ∧ ∃ n, wr = w.drewN n) (fun _ y _ => (intOf y).natAbs)
  case atStart => exact ⟨a, b, rfl, rfl, ha, ha', hb, hb', rfl, 0, rfl⟩
  case round =>
    obtain ⟨a', b', rfl, rfl, h1, h2, h3, h4, hg, n, rfl⟩ := hrel
    have HG := Lib.hid hg
    clear hg
    by_cases h0 : b' = 0
    · subst h0
      have HA : Hid ((Int.gcd a b : Int) = a'.natAbs) := Lib.hid (by rw [← HG.out]; simp)
      by_cases hs : a' < 0
      · go_wp2
        go_ret
        exact ⟨ret_int (by rw [HA.out]; omega), n, rfl⟩
      · go_wp2
        go_ret
        exact ⟨ret_int (by rw [HA.out]; omega), n, rfl⟩
    · have hr : (a'.tmod b').natAbs < b'.natAbs := by rw [Int.natAbs_tmod]; exact Nat.mod_lt _ (by omega)
      have HR := Lib.hid hr
      clear hr
      go_wp2
      go_quiet (fail)
      go_wp2
      go_roundw
      case rel => exact ⟨b', a'.tmod b', rfl, rfl, h3, h4, by have := HR.out; omega, by have := HR.out; omega, by rw [← HG.out, ← gcd_step a' b'], n + _, World.drewN_drewN _ _ _⟩
      case measure => have h := HR.out; rw [Int.natAbs_tmod] at h; simpa [intOf] using h

set_option maxHeartbeats 400000 in
theorem gfrac_any (a b : Int) (w : World) (ha : -9223372036854775807 ≤ a) (ha' : a ≤ 9223372036854775807) (hb : 0 < b) (hb' : b ≤ 9223372036854775807) :
    Calls Tryd.prog 22 #[.int .i64 a, .int .i64 b] w fun e w' => e = .returned (fr (Rat.divInt a b)) ∧ Below w.heap.size w w' := by
  have hn := div_num (a := a) hb
  have hd := div_den (a := a) hb
  have hg := gcd_pos (a := a) hb
  have hgl := gcd_le (a := a) hb
  generalize hG : (Int.gcd a b : Int) = g at *
  generalize hQ : Rat.divInt a b = q at *
  rw [Int.tdiv_eq_ediv_of_nonneg (by omega)] at hd
  have HN := Lib.hid hn
  have HD := Lib.hid hd
  have HG := Lib.hid hG
  clear hn hd hG hQ
  go_enter Tryd.func22, Tryd.ntmps22
  go_wp2_with fail
  refine (ggcd_any a b _ (by omega) (by omega) (by omega) (by omega)).mono ?_
  rintro e w' ⟨rfl, n, rfl⟩
  rw [show (a.gcd b : Int) = g from HG.out]
  by_cases h0 : a < 0
  · go_wp2
    go_region
    go_wp2
    exact bodyPost_ret (v := fr q) (by simp [results, Tryd.results22, go_sem, fr, HN.out, HD.out]) rfl ⟨rfl, ((below_drewN ((Below.refl _ _).alloc (Nat.le_refl _) _) _).setCell (Nat.le_refl _) _).setCell (Nat.le_refl _) _⟩
  · have HN' : Hid (a / g = q.num) := Lib.hid (by rw [← HN.out, Int.tdiv_eq_ediv_of_nonneg (by omega)])
    go_wp2
    go_region
    go_wp2
    exact bodyPost_ret (v := fr q) (by simp [results, Tryd.results22, go_sem, fr, HN'.out, HD.out]) rfl ⟨rfl, ((below_drewN ((Below.refl _ _).alloc (Nat.le_refl _) _) _).setCell (Nat.le_refl _) _).setCell (Nat.le_refl _) _⟩

/- The Shapley sums written out for one to four players, and the laws that they keep: plain Lean. -/


theorem len_cons {α : Type} {l : List α} {n : Nat} (h : l.length = n + 1) : ∃ a t, l = a :: t ∧ t.length = n := by
  cases l with
  | nil => simp at h
  | cons a t => exact ⟨a, t, rfl, by simpa using h⟩
theorem len_zero {α : Type} {l : List α} (h : l.length = 0) : l = [] := List.eq_nil_of_length_eq_zero h

/-- The sums over all orders. -/
def sumsL (c : List Int) (n : Nat) : List Int := addAll c n (List.replicate n 0) (ext n n [])

theorem list2 (l : List Int) (h : l.length = 2) : ∃ c0 c1 : Int, l = [c0, c1] := by
  obtain ⟨c0, l0, rfl, h0⟩ := len_cons h
  obtain ⟨c1, l1, rfl, h1⟩ := len_cons h0
  obtain rfl := len_zero h1
  exact ⟨c0, c1, rfl⟩
theorem sums1_raw (c0 c1 : Int) : sumsL [c0, c1] 1 = [(0 + (c1 - c0))] := by kernel_rfl
theorem sums1 (c0 c1 : Int) : sumsL [c0, c1] 1 = [(-1) * c0 + (1) * c1] := by
  rw [sums1_raw]
  simp only [List.cons.injEq, and_true]
  omega

theorem list4 (l : List Int) (h : l.length = 4) : ∃ c0 c1 c2 c3 : Int, l = [c0, c1, c2, c3] := by
  obtain ⟨c0, l0, rfl, h0⟩ := len_cons h
  obtain ⟨c1, l1, rfl, h1⟩ := len_cons h0
  obtain ⟨c2, l2, rfl, h2⟩ := len_cons h1
  obtain ⟨c3, l3, rfl, h3⟩ := len_cons h2
  obtain rfl := len_zero h3
  exact ⟨c0, c1, c2, c3, rfl⟩
theorem sums2_raw (c0 c1 c2 c3 : Int) : sumsL [c0, c1, c2, c3] 2 = [((0 + (c1 - c0)) + (c3 - c2)), ((0 + (c3 - c1)) + (c2 - c0))] := by kernel_rfl
theorem sums2 (c0 c1 c2 c3 : Int) : sumsL [c0, c1, c2, c3] 2 = [(-1) * c0 + (1) * c1 + (-1) * c2 + (1) * c3, (-1) * c0 + (-1) * c1 + (1) * c2 + (1) * c3] := by
  rw [sums2_raw]
  simp only [List.cons.injEq, and_true]
  omega

theorem list8 (l : List Int) (h : l.length = 8) : ∃ c0 c1 c2 c3 c4 c5 c6 c7 : Int, l = [c0, c1, c2, c3, c4, c5, c6, c7] := by
  obtain ⟨c0, l0, rfl, h0⟩ := len_cons h
  obtain ⟨c1, l1, rfl, h1⟩ := len_cons h0
  obtain ⟨c2, l2, rfl, h2⟩ := len_cons h1
  obtain ⟨c3, l3, rfl, h3⟩ := len_cons h2
  obtain ⟨c4, l4, rfl, h4⟩ := len_cons h3
  obtain ⟨c5, l5, rfl, h5⟩ := len_cons h4
  obtain ⟨c6, l6, rfl, h6⟩ := len_cons h5
  obtain ⟨c7, l7, rfl, h7⟩ := len_cons h6
  obtain rfl := len_zero h7
  exact ⟨c0, c1, c2, c3, c4, c5, c6, c7, rfl⟩
theorem sums3_raw (c0 c1 c2 c3 c4 c5 c6 c7 : Int) : sumsL [c0, c1, c2, c3, c4, c5, c6, c7] 3 = [((((((0 + (c1 - c0)) + (c1 - c0)) + (c3 - c2)) + (c7 - c6)) + (c5 - c4)) + (c7 - c6)), ((((((0 + (c3 - c1)) + (c7 - c5)) + (c2 - c0)) + (c2 - c0)) + (c7 - c5)) + (c6 - c4)), ((((((0 + (c7 - c3)) + (c5 - c1)) + (c7 - c3)) + (c6 - c2)) + (c4 - c0)) + (c4 - c0))] := by kernel_rfl
theorem sums3 (c0 c1 c2 c3 c4 c5 c6 c7 : Int) : sumsL [c0, c1, c2, c3, c4, c5, c6, c7] 3 = [(-2) * c0 + (2) * c1 + (-1) * c2 + (1) * c3 + (-1) * c4 + (1) * c5 + (-2) * c6 + (2) * c7, (-2) * c0 + (-1) * c1 + (2) * c2 + (1) * c3 + (-1) * c4 + (-2) * c5 + (1) * c6 + (2) * c7, (-2) * c0 + (-1) * c1 + (-1) * c2 + (-2) * c3 + (2) * c4 + (1) * c5 + (1) * c6 + (2) * c7] := by
  rw [sums3_raw]
  simp only [List.cons.injEq, and_true]
  omega

theorem list16 (l : List Int) (h : l.length = 16) : ∃ c0 c1 c2 c3 c4 c5 c6 c7 c8 c9 c10 c11 c12 c13 c14 c15 : Int, l = [c0, c1, c2, c3, c4, c5, c6, c7, c8, c9, c10, c11, c12, c13, c14, c15] := by
  obtain ⟨c0, l0, rfl, h0⟩ := len_cons h
  obtain ⟨c1, l1, rfl, h1⟩ := len_cons h0
  obtain ⟨c2, l2, rfl, h2⟩ := len_cons h1
  obtain ⟨c3, l3, rfl, h3⟩ := len_cons h2
  obtain ⟨c4, l4, rfl, h4⟩ := len_cons h3
  obtain ⟨c5, l5, rfl, h5⟩ := len_cons h4
  obtain ⟨c6, l6, rfl, h6⟩ := len_cons h5
  obtain ⟨c7, l7, rfl, h7⟩ := len_cons h6
  obtain ⟨c8, l8, rfl, h8⟩ := len_cons h7
  obtain ⟨c9, l9, rfl, h9⟩ := len_cons h8
  obtain ⟨c10, l10, rfl, h10⟩ := len_cons h9
  obtain ⟨c11, l11, rfl, h11⟩ := len_cons h10
  obtain ⟨c12, l12, rfl, h12⟩ := len_cons h11
  obtain ⟨c13, l13, rfl, h13⟩ := len_cons h12
  obtain ⟨c14, l14, rfl, h14⟩ := len_cons h13
  obtain ⟨c15, l15, rfl, h15⟩ := len_cons h14
  obtain rfl := len_zero h15
  exact ⟨c0, c1, c2, c3, c4, c5, c6, c7, c8, c9, c10, c11, c12, c13, c14, c15, rfl⟩
theorem sums4_raw (c0 c1 c2 c3 c4 c5 c6 c7 c8 c9 c10 c11 c12 c13 c14 c15 : Int) : sumsL [c0, c1, c2, c3, c4, c5, c6, c7, c8, c9, c10, c11, c12, c13, c14, c15] 4 = [((((((((((((((((((((((((0 + (c1 - c0)) + (c1 - c0)) + (c1 - c0)) + (c1 - c0)) + (c1 - c0)) + (c1 - c0)) + (c3 - c2)) + (c3 - c2)) + (c7 - c6)) + (c15 - c14)) + (c11 - c10)) + (c15 - c14)) + (c5 - c4)) + (c5 - c4)) + (c7 - c6)) + (c15 - c14)) + (c13 - c12)) + (c15 - c14)) + (c9 - c8)) + (c9 - c8)) + (c11 - c10)) + (c15 - c14)) + (c13 - c12)) + (c15 - c14)), ((((((((((((((((((((((((0 + (c3 - c1)) + (c3 - c1)) + (c7 - c5)) + (c15 - c13)) + (c11 - c9)) + (c15 - c13)) + (c2 - c0)) + (c2 - c0)) + (c2 - c0)) + (c2 - c0)) + (c2 - c0)) + (c2 - c0)) + (c7 - c5)) + (c15 - c13)) + (c6 - c4)) + (c6 - c4)) + (c15 - c13)) + (c14 - c12)) + (c11 - c9)) + (c15 - c13)) + (c10 - c8)) + (c10 - c8)) + (c15 - c13)) + (c14 - c12)), ((((((((((((((((((((((((0 + (c7 - c3)) + (c15 - c11)) + (c5 - c1)) + (c5 - c1)) + (c15 - c11)) + (c13 - c9)) + (c7 - c3)) + (c15 - c11)) + (c6 - c2)) + (c6 - c2)) + (c15 - c11)) + (c14 - c10)) + (c4 - c0)) + (c4 - c0)) + (c4 - c0)) + (c4 - c0)) + (c4 - c0)) + (c4 - c0)) + (c15 - c11)) + (c13 - c9)) + (c15 - c11)) + (c14 - c10)) + (c12 - c8)) + (c12 - c8)), ((((((((((((((((((((((((0 + (c15 - c7)) + (c11 - c3)) + (c15 - c7)) + (c13 - c5)) + (c9 - c1)) + (c9 - c1)) + (c15 - c7)) + (c11 - c3)) + (c15 - c7)) + (c14 - c6)) + (c10 - c2)) + (c10 - c2)) + (c15 - c7)) + (c13 - c5)) + (c15 - c7)) + (c14 - c6)) + (c12 - c4)) + (c12 - c4)) + (c8 - c0)) + (c8 - c0)) + (c8 - c0)) + (c8 - c0)) + (c8 - c0)) + (c8 - c0))] := by kernel_rfl
theorem sums4 (c0 c1 c2 c3 c4 c5 c6 c7 c8 c9 c10 c11 c12 c13 c14 c15 : Int) : sumsL [c0, c1, c2, c3, c4, c5, c6, c7, c8, c9, c10, c11, c12, c13, c14, c15] 4 = [(-6) * c0 + (6) * c1 + (-2) * c2 + (2) * c3 + (-2) * c4 + (2) * c5 + (-2) * c6 + (2) * c7 + (-2) * c8 + (2) * c9 + (-2) * c10 + (2) * c11 + (-2) * c12 + (2) * c13 + (-6) * c14 + (6) * c15, (-6) * c0 + (-2) * c1 + (6) * c2 + (2) * c3 + (-2) * c4 + (-2) * c5 + (2) * c6 + (2) * c7 + (-2) * c8 + (-2) * c9 + (2) * c10 + (2) * c11 + (-2) * c12 + (-6) * c13 + (2) * c14 + (6) * c15, (-6) * c0 + (-2) * c1 + (-2) * c2 + (-2) * c3 + (6) * c4 + (2) * c5 + (2) * c6 + (2) * c7 + (-2) * c8 + (-2) * c9 + (-2) * c10 + (-6) * c11 + (2) * c12 + (2) * c13 + (2) * c14 + (6) * c15, (-6) * c0 + (-2) * c1 + (-2) * c2 + (-2) * c3 + (-2) * c4 + (-2) * c5 + (-2) * c6 + (-6) * c7 + (6) * c8 + (2) * c9 + (2) * c10 + (2) * c11 + (2) * c12 + (2) * c13 + (2) * c14 + (6) * c15] := by
  rw [sums4_raw]
  simp only [List.cons.injEq, and_true]
  omega


/- What the Shapley payments keep: plain Lean. -/

theorem add_same (a b F : Int) : Rat.divInt a F + Rat.divInt b F = Rat.divInt (a + b) F := by
  rw [Rat.divInt_eq_div, Rat.divInt_eq_div, Rat.divInt_eq_div, Rat.intCast_add, Rat.div_def, Rat.div_def, Rat.div_def, Rat.add_mul]
theorem divInt_cancel (x : Int) {F : Int} (h : F ≠ 0) : Rat.divInt (F * x) F = (x : Rat) := by
  rw [Rat.divInt_eq_div, Rat.intCast_mul, Rat.mul_comm, Rat.mul_div_cancel (by exact_mod_cast h)]

/-- The payments. -/
def shapL (c : List Int) (n : Nat) : List Rat := (sumsL c n).map fun s => Rat.divInt s ((ext n n []).length : Nat)
theorem ext_len {n : Nat} (h : n ≤ 4) : 1 ≤ (ext n n []).length ∧ (ext n n []).length ≤ 24 := by
  match n, h with
  | 0, _ => decide
  | 1, _ => decide
  | 2, _ => decide
  | 3, _ => decide +kernel
  | 4, _ => decide +kernel
theorem shapL_length (c : List Int) (n : Nat) : (shapL c n).length = n := by
  unfold shapL sumsL; rw [List.length_map, addAll_length]; simp

theorem addAll_bd {c : List Int} (hcb : ∀ x ∈ c, 0 ≤ x ∧ x ≤ 1000) (n : Nat) (L : List (List Nat)) : ∀ (sums : List Int) (m : Int), 0 ≤ m → (∀ y ∈ sums, -m ≤ y ∧ y ≤ m) → ∀ y ∈ addAll c n sums L, -(m + 1000 * L.length) ≤ y ∧ y ≤ m + 1000 * L.length := by
  induction L with
  | nil => intro sums m hm h y hy; have := h y hy; simp; omega
  | cons os L ih =>
    intro sums m hm h y hy
    have := ih (addUp sums (joinL c os) n) (m + 1000) (by omega) (addUp_bd h (joinL_bd hcb os) hm n) y hy
    simp only [List.length_cons]
    omega
theorem sums_bd {c : List Int} (hcb : ∀ x ∈ c, 0 ≤ x ∧ x ≤ 1000) {n : Nat} (h : n ≤ 4) : ∀ y ∈ sumsL c n, -24000 ≤ y ∧ y ≤ 24000 := by
  intro y hy
  have h1 := addAll_bd hcb n (ext n n []) (List.replicate n 0) 0 (by omega) (by intro z hz; rw [List.mem_replicate] at hz; omega) y hy
  have h2 := ext_len h
  omega
/-- Small fractions. -/
def smallQ (q : Rat) : Prop := (q.den : Int) ≤ 24 ∧ -100000 ≤ q.num ∧ q.num ≤ 100000
theorem shapL_small {c : List Int} (hcb : ∀ x ∈ c, 0 ≤ x ∧ x ≤ 1000) {n : Nat} (h : n ≤ 4) : ∀ q ∈ shapL c n, smallQ q := by
  intro q hq
  simp only [shapL, List.mem_map] at hq
  obtain ⟨s, hs, rfl⟩ := hq
  have h1 := sums_bd hcb h s hs
  have h2 := ext_len h
  have hF : (0 : Int) < ((ext n n []).length : Nat) := by omega
  have h3 := divInt_den_le (a := s) hF
  have h4 := divInt_bd (a := s) hF (m := 24000) h1.1 h1.2
  exact ⟨by omega, by omega, by omega⟩

/-- The payment of a set. -/
def paysL (qs : List Rat) (set : Nat) : Rat := (List.range qs.length).foldl (fun s i => if set.testBit i then s + qs.getD i 0 else s) 0
def paysTo (qs : List Rat) (set k : Nat) : Rat := (List.range k).foldl (fun s i => if set.testBit i then s + qs.getD i 0 else s) 0
theorem paysTo_succ (qs : List Rat) (set k : Nat) : paysTo qs set (k + 1) = if set.testBit k then paysTo qs set k + qs.getD k 0 else paysTo qs set k := by
  simp [paysTo, List.range_succ]

theorem F1 : (ext 1 1 []).length = 1 := by decide
theorem F2 : (ext 2 2 []).length = 2 := by decide
theorem F3 : (ext 3 3 []).length = 6 := by decide +kernel
theorem F4 : (ext 4 4 []).length = 24 := by decide +kernel

set_option maxHeartbeats 4000000 in
/-- The payments of all sum to the cost of all. -/
theorem shap_sum {c : List Int} {n : Nat} (hn : 1 ≤ n ∧ n ≤ 4) (hl : c.length = 2 ^ n) (h0 : c.getD 0 0 = 0) : paysL (shapL c n) (2 ^ n - 1) = ((c.getD (2 ^ n - 1) 0 : Int) : Rat) := by
  have key : ∀ (s x F : Int), F ≠ 0 → s = F * x → Rat.divInt s F = (x : Rat) := fun s x F hF h => by rw [h, divInt_cancel x hF]
  match n, hn with
  | 1, _ =>
    obtain ⟨c0, c1, rfl⟩ := list2 c hl
    simp only [List.getD_cons_zero] at h0
    unfold shapL
    rw [sums1, F1]
    simp only [paysL, List.map_cons, List.map_nil, List.length_cons, List.length_nil, List.range_succ, List.range_zero, List.nil_append, List.foldl_cons, List.foldl_nil, List.getD_cons_zero, Rat.zero_add]
    rw [if_pos (by decide)]
    exact key _ _ _ (by decide) (by show _ = 1 * c1; omega)
  | 2, _ =>
    obtain ⟨c0, c1, c2, c3, rfl⟩ := list4 c hl
    simp only [List.getD_cons_zero] at h0
    unfold shapL
    rw [sums2, F2]
    simp only [paysL, List.map_cons, List.map_nil, List.length_cons, List.length_nil, List.range_succ, List.range_zero, List.nil_append, List.cons_append, List.foldl_cons, List.foldl_nil, List.getD_cons_zero, List.getD_cons_succ, Rat.zero_add]
    rw [if_pos (by decide), if_pos (by decide), add_same]
    exact key _ _ _ (by decide) (by show _ = 2 * c3; omega)
  | 3, _ =>
    obtain ⟨c0, c1, c2, c3, c4, c5, c6, c7, rfl⟩ := list8 c hl
    simp only [List.getD_cons_zero] at h0
    unfold shapL
    rw [sums3, F3]
    simp only [paysL, List.map_cons, List.map_nil, List.length_cons, List.length_nil, List.range_succ, List.range_zero, List.nil_append, List.cons_append, List.foldl_cons, List.foldl_nil, List.getD_cons_zero, List.getD_cons_succ, Rat.zero_add]
    rw [if_pos (by decide), if_pos (by decide), if_pos (by decide), add_same, add_same]
    exact key _ _ _ (by decide) (by show _ = 6 * c7; omega)
  | 4, _ =>
    obtain ⟨c0, c1, c2, c3, c4, c5, c6, c7, c8, c9, c10, c11, c12, c13, c14, c15, rfl⟩ := list16 c hl
    simp only [List.getD_cons_zero] at h0
    unfold shapL
    rw [sums4, F4]
    simp only [paysL, List.map_cons, List.map_nil, List.length_cons, List.length_nil, List.range_succ, List.range_zero, List.nil_append, List.cons_append, List.foldl_cons, List.foldl_nil, List.getD_cons_zero, List.getD_cons_succ, Rat.zero_add]
    rw [if_pos (by decide), if_pos (by decide), if_pos (by decide), if_pos (by decide), add_same, add_same, add_same]
    refine key _ c15 ((24 : Nat) : Int) (by decide) ?_
    omega

/- Contract: Shapley of package games. -/

/-- The cells of a row of fractions. -/
def fcells (qs : List Rat) : List Value := qs.flatMap fun q => [.int .i64 q.num, .int .i64 (q.den : Int)]
theorem fcells_snoc (qs : List Rat) (q : Rat) : fcells (qs ++ [q]) = fcells qs ++ [.int .i64 q.num, .int .i64 (q.den : Int)] := by simp [fcells]

theorem plr_np {xs : List Int} (h : valC xs = true) : xs.length = 2 ∧ plr xs = 1 ∨ xs.length = 4 ∧ plr xs = 2 ∨ xs.length = 8 ∧ plr xs = 3 ∨ xs.length = 16 ∧ plr xs = 4 := by
  have h1 := (valC_iff.1 h).1
  unfold plr
  rw [if_pos h]
  rcases h1 with h | h | h | h <;> simp [h]

set_option maxHeartbeats 1600000 in
theorem shapley_bad (A : Option Addr) (n cap : Nat) (xs : List Int) (w : World) (hl : xs.length = n) (hm : n ≤ 9223372036854775807) (h : Ints w A xs) (hv : valC xs = false) :
    Calls Tryd.prog 8 #[.slice A n cap] w fun e w' => e = .returned (.tuple #[.slice none 0 0, .int .i64 2]) ∧ Below w.heap.size w w' := by
  have hI : Ints (w.alloc (.cells #[.slice A n cap] 64)) A xs := h.below ((Below.refl _ _).alloc (by go_size) _)
  have HI := Lib.hid hI
  have HL := Lib.hid hl
  have HV := Lib.hid hv
  clear hI hl hv h
  go_enter Tryd.func8, Tryd.ntmps8
  go_wp2_with fail
  refine (valid_any A n cap xs _ HL.out hm HI.out).mono ?_
  rintro e w1 ⟨rfl, hb⟩
  rw [HV.out]
  have HB := Lib.hid hb
  clear hb
  go_wp2
  go_ret2
  exact ⟨rfl, ((Below.refl _ _).alloc (by go_size) _).trans (HB.out.mono (by go_size))⟩

set_option maxHeartbeats 1600000 in
theorem shapley_ok (A : Option Addr) (N cap : Nat) (xs : List Int) (w : World) (hl : xs.length = N) (h : Ints w A xs) (hv : valC xs = true) :
    Calls Tryd.prog 8 #[.slice A N cap] w fun e w' => ∃ A' c', e = .returned (.tuple #[.slice A' (plr xs) c', .int .i64 0]) ∧ w'.ownsRow w.heap.size 41 2 (.slice A' (plr xs) c') (plr xs) (fcells (shapL xs (plr xs))) ∧ Below w.heap.size w w' := by
  have hnp := plr_np hv
  rw [hl] at hnp
  obtain ⟨n, hn⟩ : ∃ n, n = plr xs := ⟨_, rfl⟩
  rw [← hn] at hnp ⊢
  obtain ⟨ac, rfl, hac, hc⟩ := h.some_ (by omega)
  have hI : Ints (w.alloc (.cells #[.slice (some ac) N cap] 64)) (some ac) xs := h.below ((Below.refl _ _).alloc (by go_size) _)
  have hn4 : n ≤ 4 := by omega
  have hn0 : 1 ≤ n := by omega
  have hNl : N ≤ 16 := by omega
  have hmk := make_ints n (by omega)
  have hN : N = 2 ^ n := by rcases hnp with ⟨h1, h2⟩ | ⟨h1, h2⟩ | ⟨h1, h2⟩ | ⟨h1, h2⟩ <;> rw [h1, h2] <;> rfl
  have hcb := (valC_iff.1 hv).2.2
  have hel := ext_len hn4
  have H := Lib.hid (And.intro hI (And.intro hl (And.intro hv (And.intro hnp (And.intro hN (And.intro hcb (And.intro hc (And.intro hac hel))))))))
  clear hI hl hv hnp hN hcb hn h hc hac hel
  go_enter Tryd.func8, Tryd.ntmps8
  go_wp2_with fail
  refine (valid_any (some ac) N cap xs _ H.out.2.1 (by omega) H.out.1).mono ?_
  rintro e w1 ⟨rfl, hb⟩
  rw [H.out.2.2.1]
  have hbk : Blk w1 w.heap.size 64 #[.slice (some ac) N cap] := (Blk.new _ _ _ rfl).below hb (by go_size)
  obtain ⟨k0, k1⟩ := hbk.at1
  have hw1 : Below w.heap.size w w1 := ((Below.refl _ _).alloc (by go_size) _).trans (hb.mono (by go_size))
  have hz1 := hbk.lt
  have H1 := Lib.hid (And.intro hbk hw1)
  clear hb hbk hw1
  go_wp2_with fail
  refine (players_any _ _ n _ _ H.out.2.2.2.1).mono ?_
  rintro e w' ⟨rfl, rfl⟩
  have B3 : ∀ o1 o2 o3, Below w1.heap.size w1 (((w1.alloc o1).alloc o2).alloc o3) := fun o1 o2 o3 => (((Below.refl _ _).alloc (by go_size) _).alloc (by go_size) _).alloc (by go_size) _
  have k2 : ∀ o1 o2 o3, (((w1.alloc o1).alloc o2).alloc o3).cell? ⟨w.heap.size, 0, none⟩ = some (.slice (some ac) N cap) := fun o1 o2 o3 => ((B3 o1 o2 o3).cell hz1).trans k0
  have HB3 := Lib.hid B3
  clear B3
  go_wp2_with fail
  clear k2
  have B3 := HB3.out
  obtain ⟨hI, hl, hv, hnp, hN, hcb, hc, hac, hel⟩ := H.out
  obtain ⟨hbk, hw1⟩ := H1.out
  have hacw := Nat.lt_of_lt_of_le hac hw1.size
  refine (orders_any ac N cap n (w1.heap.size + 1 + 1) w.heap.size (w1.heap.size + 1) w1.heap.size xs (List.replicate n 0) _ hn4 hn0 hN hl (by simp) hcb (by simp) (by omega)
    (fun i x hi => ((B3 _ _ _).cell (lt_of_cell ((hw1.cell (lt_of_cell (hc i x hi))).trans (hc i x hi)))).trans ((hw1.cell (lt_of_cell (hc i x hi))).trans (hc i x hi))) (by simp; omega)
    (Blk.new _ _ _ (by simp)) (hbk.below (B3 _ _ _) hz1) ((Blk.new _ _ _ (by simp)).alloc _) (((Blk.new _ _ _ rfl).alloc _).alloc _)
    (by omega) (by omega) (by omega) (by omega) (by omega) (by omega) (by omega)).mono ?_
  rintro e w2 ⟨rfl, hbc2, hbS2, hbd2, hK2⟩
  have hb2 : Below w1.heap.size w1 w2 := by
    have h := ((Kept.of_below (B3 (.cells (arr (List.replicate n 0)) 3) (.cells #[.slice (some ⟨w1.heap.size, 0, none⟩) n n] 22) (.cells #[.int .i64 0] 3)) []).trans (hK2.mono (by go_size) (by intro x hx; simp only [List.mem_cons, List.not_mem_nil, or_false] at hx; exact .inr (by omega))))
    exact h.below
  have hbs2 : Blk w2 (w1.heap.size + 1) 22 #[.slice (some ⟨w1.heap.size, 0, none⟩) n n] := ((Blk.new _ _ _ (by simp)).alloc _).kept hK2 (by simp) (by simp)
  have hW2 : Below w.heap.size w w2 := hw1.trans (hb2.mono hw1.size)
  have hzz := hbS2.lt
  have hbs2' := hbs2.lt
  have hbc2' := hbc2.lt
  obtain ⟨u0, u1⟩ := hbs2.at1
  have H2 := Lib.hid (And.intro hbc2 (And.intro hbS2 (And.intro hbd2 (And.intro hbs2 hW2))))
  have hwz : w.heap.size ≤ w2.heap.size := hW2.size
  clear hbc2 hbS2 hbd2 hK2 hb2 hbs2 hW2 B3 hI hl hv hnp hN hcb hc hac hel hbk hw1 HB3 k0 k1
  obtain ⟨cn, hcn⟩ : ∃ cn, cn = (ext n n []).length := ⟨_, rfl⟩
  rw [← hcn] at H2
  have hcn2 := H.out.2.2.2.2.2.2.2.2
  rw [← hcn] at hcn2
  have HCN := Lib.hid hcn
  clear hcn
  go_wp2
  go_loopw [7, 22] (fun ov iv wr => ∃ (k : Nat) (A : Option Addr) (cp : Nat), k ≤ n ∧ iv = .int .i64 k ∧ ov = .slice A k cp ∧ wr.ownsRow w2.heap.size 41 2 (.slice A k cp) k (fcells ((shapL xs n).take k)) ∧ Below w2.heap.size w2 wr) (fun _ iv _ => n - (intOf iv).toNat)
  case atStart => exact ⟨0, none, 0, Nat.zero_le _, rfl, rfl, by simpa [fcells] using World.ownsRow_nil _ _ _ _, Below.refl _ _⟩
  case round =>
    obtain ⟨k, A, cp, hkn, rfl, rfl, hown, hbl⟩ := hrel
    obtain ⟨hbc2, hbS2, hbd2, hbs2, hW2⟩ := H2.out
    by_cases hlt : k < n
    · have hsl : (sumsL xs n).length = n := by unfold sumsL; rw [addAll_length]; simp
      obtain ⟨x, hx⟩ : ∃ x, (sumsL xs n)[k]? = some x := ⟨_, List.getElem?_eq_getElem (by rw [hsl]; exact hlt)⟩
      have hxb := hbd2 x (List.mem_of_getElem? hx)
      have c1 : wr.cell? ⟨w1.heap.size, k, none⟩ = some (.int .i64 x) := by
        rw [(hbS2.below hbl hbS2.lt).cell, arr_get]
        show ((sumsL xs n)[k]?).map _ = _
        rw [hx]; rfl
      obtain ⟨c2, _⟩ := (hbc2.below hbl hbc2.lt).at1
      have hq : (shapL xs n)[k]? = some (Rat.divInt x cn) := by unfold shapL; rw [List.getElem?_map, hx, HCN.out]; rfl
      have HNEW : Hid (fcells ((shapL xs n).take (k + 1)) = fcells ((shapL xs n).take k) ++ [.int .i64 (Rat.divInt x cn).num, .int .i64 ((Rat.divInt x cn).den : Int)]) := Lib.hid (by
        rw [List.take_add_one, hq]; exact fcells_snoc _ _)
      have HR := Lib.hid (And.intro hown hbl)
      clear hown hbl hx hq hsl hbc2 hbS2 hbd2 hbs2 hW2
      go_wp2_with fail
      refine (gfrac_any x cn _ (by omega) (by omega) (by omega) (by omega)).mono ?_
      rintro e w3 ⟨rfl, hb3⟩
      generalize Rat.divInt x (cn : Int) = q at HNEW ⊢
      have hown3 := own_below HR.out.1 hb3
      have hbl3 : Below w2.heap.size w2 w3 := HR.out.2.trans (hb3.mono HR.out.2.size)
      have HR3 := Lib.hid (And.intro hown3 hbl3)
      have hw3 : w2.heap.size ≤ w3.heap.size := hbl3.size
      clear hown3 hbl3 hb3
      unfold fr
      go_wp2_with (at_builtin; refine app1 sty_frac rfl _ _ rfl w2.heap.size A k cp _ #[.int .i64 q.num, .int .i64 (q.den : Int)] rfl (by simp [Value.oneCell']) rfl HR3.out.1 rfl (by omega) hw3 ?_)
      intro A4 k4 w4 hown4 _ hbl4 hk41 hk42
      rw [← HNEW.out] at hown4
      have HR4 := Lib.hid (And.intro hown4 (HR3.out.2.trans hbl4))
      clear hown4 hbl4
      go_wp2
      go_roundw
      case rel => exact ⟨k + 1, A4, k4, by omega, by go_num, rfl, HR4.out.1, HR4.out.2⟩
      case measure => simp [intOf]; omega
    · obtain rfl : k = n := by omega
      have HR := Lib.hid (And.intro hown (hW2.trans (hbl.mono hwz)))
      clear hown hbl hbc2 hbS2 hbd2 hbs2 hW2
      go_wp2
      go_ret2
      refine ⟨A, cp, rfl, ?_, HR.out.2⟩
      have h := own_mono HR.out.1 hwz
      rwa [List.take_of_length_le (by unfold shapL sumsL; rw [List.length_map, addAll_length]; simp)] at h

/-- What Shapley returns, valid or not. -/
def ShR (xs : List Int) (base : Nat) (w : World) (A : Option Addr) (k c : Nat) (ec : Int) : Prop :=
  (valC xs = true ∧ ec = 0 ∧ k = plr xs ∧ w.ownsRow base 41 2 (.slice A k c) k (fcells (shapL xs (plr xs)))) ∨ (valC xs = false ∧ ec = 2 ∧ k = 0 ∧ A = none ∧ c = 0)
theorem shapley_any (A : Option Addr) (n cap : Nat) (xs : List Int) (w : World) (hl : xs.length = n) (hm : n ≤ 9223372036854775807) (h : Ints w A xs) :
    Calls Tryd.prog 8 #[.slice A n cap] w fun e w' => ∃ A' k c' ec, e = .returned (.tuple #[.slice A' k c', .int .i64 ec]) ∧ ShR xs w.heap.size w' A' k c' ec ∧ Below w.heap.size w w' := by
  cases hv : valC xs
  · exact (shapley_bad A n cap xs w hl hm h hv).mono fun _ _ hh => ⟨none, 0, 0, 2, hh.1, .inr ⟨hv, rfl, rfl, rfl, rfl⟩, hh.2⟩
  · exact (shapley_ok A n cap xs w hl h hv).mono fun _ _ ⟨A', c', h1, h2, h3⟩ => ⟨A', plr xs, c', 0, h1, .inl ⟨hv, rfl, rfl, h2⟩, h3⟩

/- Equality of lists, as a walk decides it. No program. -/

def eqB {α : Type} [DecidableEq α] (a b : List α) : Bool := decide (a = b)
theorem eqB_len {α : Type} [DecidableEq α] {a b : List α} (h : a.length ≠ b.length) : eqB a b = false := by
  unfold eqB; exact decide_eq_false fun e => h (by rw [e])
theorem eqB_at {α : Type} [DecidableEq α] {a b : List α} {k : Nat} {x y : α} (hx : a[k]? = some x) (hy : b[k]? = some y) (h : x ≠ y) : eqB a b = false := by
  unfold eqB; exact decide_eq_false fun e => h (by rw [e, hy] at hx; injection hx with hx; exact hx.symm)
theorem eqB_all {α : Type} [DecidableEq α] {a b : List α} {n : Nat} (ha : a.length = n) (hb : b.length = n) (h : a.take n = b.take n) : eqB a b = true := by
  unfold eqB; apply decide_eq_true
  rwa [List.take_of_length_le (by omega), List.take_of_length_le (by omega)] at h
theorem take_eq_succ {α : Type} {a b : List α} {k : Nat} {x : α} (hx : a[k]? = some x) (hy : b[k]? = some x) (h : a.take k = b.take k) : a.take (k + 1) = b.take (k + 1) := by
  rw [List.take_add_one, List.take_add_one, hx, hy, h]

/- Contracts: slices.Equal of ints and of fractions. -/

theorem fcells_at (qs : List Rat) (k : Nat) (q : Rat) (h : qs[k]? = some q) : (fcells qs)[k * 2]? = some (.int .i64 q.num) ∧ (fcells qs)[k * 2 + 1]? = some (.int .i64 (q.den : Int)) := by
  induction qs generalizing k with
  | nil => simp at h
  | cons p qs ih =>
    cases k with
    | zero => simp at h; subst h; simp [fcells]
    | succ k =>
      have := ih k (by simpa using h)
      have e1 : (k + 1) * 2 = k * 2 + 1 + 1 := by omega
      rw [e1]
      simpa [fcells] using this
/-- The slice at A reads as these fractions. -/
def Fracs (w : World) (A : Option Addr) (qs : List Rat) : Prop := At w A (fcells qs)
theorem Fracs.some_ {w : World} {A : Option Addr} {qs : List Rat} (h : Fracs w A qs) (hn : 0 < qs.length) : ∃ ad, A = some ad ∧ ad.block < w.heap.size ∧ ∀ i q, qs[i]? = some q → w.cell? (ad.add (i * 2)) = some (.int .i64 q.num) ∧ w.cell? ⟨(ad.add (i * 2)).block, (ad.add (i * 2)).off + 1, none⟩ = some (.int .i64 (q.den : Int)) := by
  have hl : 0 < (fcells qs).length := by
    cases qs with
    | nil => simp at hn
    | cons p qs => simp [fcells]
  obtain ⟨ad, e, hb, hc⟩ := At.some_ h hl
  refine ⟨ad, e, hb, fun i q hq => ?_⟩
  obtain ⟨h1, h2⟩ := fcells_at qs i q hq
  refine ⟨hc _ _ h1, ?_⟩
  have h3 := hc _ _ h2
  rw [← add_add] at h3
  exact h3
theorem Fracs.below {w w' : World} {A : Option Addr} {qs : List Rat} (h : Fracs w A qs) (hb : Below w.heap.size w w') : Fracs w' A qs := At.below h hb

/-- '==' and '!=' of two fractions. -/
def neB (p q : Rat) : Bool := decide (p ≠ q)
def eqQ (p q : Rat) : Bool := decide (p = q)
theorem rat_eq_iff (p q : Rat) : p = q ↔ p.num = q.num ∧ (p.den : Int) = (q.den : Int) :=
  ⟨by rintro rfl; exact ⟨rfl, rfl⟩, fun h => Rat.ext h.1 (by omega)⟩
theorem run_neq_frac (p q : Rat) (w : World) : (binOp .neq 41 (.agg #[.int .i64 p.num, .int .i64 (p.den : Int)]) (.agg #[.int .i64 q.num, .int .i64 (q.den : Int)])).run Tryd.prog w = .ok (.bool (neB p q)) w := by
  unfold neB
  have e0 : decide (p ≠ q) = !(decide (p.num = q.num) && decide ((p.den : Int) = (q.den : Int))) := by
    rw [Bool.eq_iff_iff]; simp only [ne_eq, rat_eq_iff, decide_eq_true_eq, Bool.not_eq_true', Bool.and_eq_false_iff, decide_eq_false_iff_not]
    exact Decidable.not_and_iff_not_or_not
  rw [e0]
  by_cases h1 : p.num = q.num
  · by_cases h2 : (p.den : Int) = (q.den : Int)
    · simp only [h1, h2]; go_simp
    · simp only [h1]; go_simp
  · go_simp

set_option maxHeartbeats 800000 in
theorem equalF_any (A A' : Option Addr) (n n' cap cap' : Nat) (ps qs : List Rat) (w : World) (hl : ps.length = n) (hl' : qs.length = n') (hm : n ≤ 1000000) (h : Fracs w A ps) (h' : Fracs w A' qs) :
    Calls Tryd.prog 10 #[.slice A n cap, .slice A' n' cap'] w fun e w' => e = .returned (.bool (eqB ps qs)) ∧ ∃ m, w' = w.drewN m := by
  by_cases hnn : n = n'
  · subst hnn
    by_cases h0 : n = 0
    · subst h0
      obtain rfl := List.eq_nil_of_length_eq_zero hl
      obtain rfl := List.eq_nil_of_length_eq_zero hl'
      go_enter Tryd.func10, Tryd.ntmps10
      go_wp2
      refine wp_loop_rounds 1 ?_
      rw [rounds_succ]
      go_wp2
      go_ret
      exact ⟨rfl, 0, rfl⟩
    · obtain ⟨ad, rfl, _, hc⟩ := h.some_ (by omega)
      obtain ⟨ad', rfl, _, hc'⟩ := h'.some_ (by omega)
      have H := Lib.hid (And.intro hl (And.intro hl' (And.intro hc hc')))
      clear hl hl' hc hc' h h'
      go_enter Tryd.func10, Tryd.ntmps10
      go_wp2
      go_loopw [13] (fun iv wr => ∃ k : Nat, k ≤ n ∧ iv = .int .i64 k ∧ ps.take k = qs.take k ∧ ∃ m, wr = w.drewN m) (fun iv _ => n - (intOf iv).toNat)
      case atStart => exact ⟨0, Nat.zero_le _, rfl, rfl, 0, rfl⟩
      case round =>
        obtain ⟨k, hk, rfl, ht, m, rfl⟩ := hrel
        have HT := Lib.hid ht
        clear ht
        obtain ⟨hl, hl', hc, hc'⟩ := H.out
        by_cases hlt : k < n
        · obtain ⟨p, hp⟩ : ∃ p, ps[k]? = some p := ⟨_, List.getElem?_eq_getElem (by omega)⟩
          obtain ⟨q, hq⟩ : ∃ q, qs[k]? = some q := ⟨_, List.getElem?_eq_getElem (by omega)⟩
          obtain ⟨c1, c2⟩ := hc k p hp
          obtain ⟨c3, c4⟩ := hc' k q hq
          have HP := Lib.hid (And.intro hp hq)
          clear hp hq hc hc' hl hl'
          by_cases he : p = q
          · subst he
            go_wp2
            go_region
            all_goals go_wp2
            go_roundw
            case rel => exact ⟨k + 1, by omega, by go_num, take_eq_succ HP.out.1 HP.out.2 HT.out, m + 1, rfl⟩
            case measure => simp [intOf]; omega
          · have HNE := Lib.hid he
            have hne : ∀ w, (binOp .neq 41 (.agg #[.int .i64 p.num, .int .i64 (p.den : Int)]) (.agg #[.int .i64 q.num, .int .i64 (q.den : Int)])).run Tryd.prog w = .ok (.bool true) w := fun w => by
              rw [run_neq_frac]; unfold neB; simp [he]
            clear he
            go_wp2
            go_region
            all_goals go_wp2
            go_ret
            exact ⟨ret_bool (eqB_at HP.out.1 HP.out.2 HNE.out).symm, m + 1, rfl⟩
        · obtain rfl : k = n := by omega
          have HF : Hid (eqB ps qs = true) := Lib.hid (eqB_all hl hl' HT.out)
          clear hl hl' hc hc'
          go_wp2
          go_ret
          exact ⟨ret_bool HF.out.symm, m, rfl⟩
  · have HF : Hid (eqB ps qs = false) := Lib.hid (eqB_len (by omega))
    have hne : ((n : Int) != (n' : Int)) = true := by rw [bne_iff_ne]; omega
    clear hl hl' h h'
    go_enter Tryd.func10, Tryd.ntmps10
    go_wp2
    go_ret
    exact ⟨ret_bool HF.out.symm, 0, rfl⟩

/- Bounds of sums of small fractions: plain Lean. -/

def DQ : Nat → Int
  | 0 => 1
  | k + 1 => DQ k * 24
def MQ : Nat → Int
  | 0 => 0
  | k + 1 => MQ k * 24 + 100000 * DQ k
/-- A sum of k small fractions. -/
def capQ (k : Nat) (p : Rat) : Prop := (p.den : Int) ≤ DQ k ∧ -MQ k ≤ p.num ∧ p.num ≤ MQ k
theorem DQ_pos (k : Nat) : 1 ≤ DQ k := by
  induction k with
  | zero => decide
  | succ k ih => simp only [DQ]; omega
theorem MQ_nonneg (k : Nat) : 0 ≤ MQ k := by
  induction k with
  | zero => decide
  | succ k ih => have := DQ_pos k; simp only [MQ]; omega
theorem cap_zero : capQ 0 0 := by unfold capQ; decide
theorem cap_keep {k : Nat} {p : Rat} (h : capQ k p) : capQ (k + 1) p := by
  obtain ⟨h1, h2, h3⟩ := h
  have := DQ_pos k
  have := MQ_nonneg k
  refine ⟨?_, ?_, ?_⟩ <;> simp only [DQ, MQ] <;> omega
theorem prod_bds {k : Nat} {p q : Rat} (h : capQ k p) (hq : smallQ q) : -(MQ k * 24) ≤ p.num * q.den ∧ p.num * q.den ≤ MQ k * 24 ∧ -(100000 * DQ k) ≤ q.num * p.den ∧ q.num * p.den ≤ 100000 * DQ k ∧ (p.den : Int) * q.den ≤ DQ k * 24 := by
  obtain ⟨h1, h2, h3⟩ := h
  obtain ⟨g1, g2, g3⟩ := hq
  have dp := den_pos p
  have dq := den_pos q
  have a1 := mul_bd h2 h3 (by omega) g1
  have a2 := mul_bd g2 g3 (by omega) h1
  have a3 := mul_bd (m := DQ k) (by omega) h1 (by omega) g1
  exact ⟨a1.1, a1.2, a2.1, a2.2, a3.2⟩
theorem cap_add {k : Nat} {p q : Rat} (h : capQ k p) (hq : smallQ q) : capQ (k + 1) (p + q) := by
  obtain ⟨a1, a2, a3, a4, a5⟩ := prod_bds h hq
  have hd : 0 < (p.den : Int) * q.den := Int.mul_pos (den_pos p) (den_pos q)
  rw [capQ, ← add_divInt]
  have b1 := divInt_bd (a := p.num * q.den + q.num * p.den) hd (m := MQ k * 24 + 100000 * DQ k) (by omega) (by omega)
  have b2 := divInt_den_le (a := p.num * q.den + q.num * p.den) hd
  exact ⟨by simp only [DQ]; omega, b1.1, b1.2⟩
theorem prod_bds_small {p q : Rat} (hp : smallQ p) (hq : smallQ q) : -4000000000000000000 ≤ p.num * q.den ∧ p.num * q.den ≤ 4000000000000000000 ∧ -4000000000000000000 ≤ q.num * p.den ∧ q.num * p.den ≤ 4000000000000000000 ∧ (p.den : Int) * q.den ≤ 4000000000000000000 := by
  have h1 : capQ 1 p := ⟨hp.1, hp.2.1, hp.2.2⟩
  have := prod_bds h1 hq
  have e1 : MQ 1 = 100000 := rfl
  have e2 : DQ 1 = 24 := rfl
  rw [e1, e2] at this
  omega
theorem DQ_le {k : Nat} (h : k ≤ 4) : DQ k ≤ 331776 ∧ MQ k ≤ 5529600000 := by
  match k, h with
  | 0, _ => decide
  | 1, _ => decide
  | 2, _ => decide
  | 3, _ => decide
  | 4, _ => decide
theorem cap_pays {qs : List Rat} (h : ∀ q ∈ qs, smallQ q) (set k : Nat) (hk : k ≤ qs.length) : capQ k (paysTo qs set k) := by
  induction k with
  | zero => exact cap_zero
  | succ k ih =>
    have h1 := ih (by omega)
    rw [paysTo_succ]
    split
    · have : qs.getD k 0 = qs[k] := by rw [List.getD_eq_getElem?_getD, List.getElem?_eq_getElem (by omega)]; rfl
      rw [this]
      exact cap_add h1 (h _ (List.getElem_mem _))
    · exact cap_keep h1

/- Pairs of numbers that may be fractions, and sums of payments times a number: plain Lean. -/

/-- The cells of a row of pairs. -/
def pcells (ps : List (Int × Int)) : List Value := ps.flatMap fun p => [.int .i64 p.1, .int .i64 p.2]
def pr (q : Rat) : Int × Int := (q.num, (q.den : Int))
theorem pcells_fr (qs : List Rat) : pcells (qs.map pr) = fcells qs := by
  induction qs with
  | nil => rfl
  | cons q qs ih => simp only [pcells, fcells, List.map_cons, List.flatMap_cons] at ih ⊢; rw [ih]; rfl
theorem pcells_length (ps : List (Int × Int)) : (pcells ps).length = ps.length * 2 := by
  induction ps with
  | nil => rfl
  | cons p ps ih => simp only [pcells, List.flatMap_cons, List.length_append, List.length_cons, List.length_nil] at ih ⊢; omega
theorem pcells_at (ps : List (Int × Int)) (k : Nat) (p : Int × Int) (h : ps[k]? = some p) : (pcells ps)[k * 2]? = some (.int .i64 p.1) ∧ (pcells ps)[k * 2 + 1]? = some (.int .i64 p.2) := by
  induction ps generalizing k with
  | nil => simp at h
  | cons p' ps ih =>
    cases k with
    | zero => simp at h; subst h; simp [pcells]
    | succ k =>
      have := ih k (by simpa using h)
      have e1 : (k + 1) * 2 = k * 2 + 1 + 1 := by omega
      rw [e1]
      simpa [pcells] using this
theorem pcells_take (ps : List (Int × Int)) (k : Nat) : pcells (ps.take k) = (pcells ps).take (k * 2) := by
  induction ps generalizing k with
  | nil => simp [pcells]
  | cons p ps ih =>
    cases k with
    | zero => simp [pcells]
    | succ k =>
      have e1 : (k + 1) * 2 = k * 2 + 1 + 1 := by omega
      rw [List.take_succ_cons, e1]
      have := ih k
      simp only [pcells, List.flatMap_cons] at this ⊢
      rw [this]
      simp
theorem pcells_one (ps : List (Int × Int)) : ∀ u ∈ pcells ps, u.oneCell' = true := by
  intro u hu
  simp only [pcells, List.mem_flatMap] at hu
  obtain ⟨p, _, hu⟩ := hu
  simp only [List.mem_cons, List.not_mem_nil, or_false] at hu
  rcases hu with rfl | rfl <;> rfl
/-- The slice at A reads as these pairs. -/
def Prs (w : World) (A : Option Addr) (ps : List (Int × Int)) : Prop := At w A (pcells ps)
theorem Prs.some_ {w : World} {A : Option Addr} {ps : List (Int × Int)} (h : Prs w A ps) (hn : 0 < ps.length) : ∃ ad, A = some ad ∧ ad.block < w.heap.size ∧ ∀ i p, ps[i]? = some p → w.cell? (ad.add (i * 2)) = some (.int .i64 p.1) ∧ w.cell? ⟨(ad.add (i * 2)).block, (ad.add (i * 2)).off + 1, none⟩ = some (.int .i64 p.2) := by
  obtain ⟨ad, e, hb, hc⟩ := At.some_ h (by rw [pcells_length]; omega)
  refine ⟨ad, e, hb, fun i p hp => ?_⟩
  obtain ⟨h1, h2⟩ := pcells_at ps i p hp
  refine ⟨hc _ _ h1, ?_⟩
  have h3 := hc _ _ h2
  rw [← add_add] at h3
  exact h3
theorem Prs.below {w w' : World} {A : Option Addr} {ps : List (Int × Int)} (h : Prs w A ps) (hb : Below w.heap.size w w') : Prs w' A ps := At.below h hb
theorem Prs.take {w : World} {A : Option Addr} {ps : List (Int × Int)} (h : Prs w A ps) (k : Nat) : Prs w A (ps.take k) := by
  intro i v hv
  refine h i v ?_
  rw [pcells_take, List.getElem?_take] at hv
  split at hv
  · exact hv
  · cases hv
theorem Prs.fracs {w : World} {A : Option Addr} {qs : List Rat} (h : Prs w A (qs.map pr)) : Fracs w A qs := by unfold Prs at h; rwa [pcells_fr] at h
theorem Fracs.prs {w : World} {A : Option Addr} {qs : List Rat} (h : Fracs w A qs) : Prs w A (qs.map pr) := by unfold Prs; rwa [pcells_fr]

/-- In lowest terms, with a Den up to M, and not too great. -/
def scB (M a b : Int) : Bool := decide (1 ≤ b) && decide (b ≤ M) && decide (a ≤ 100000) && decide (-100000 ≤ a) && ((Int.gcd a b : Int) == 1)
theorem scB_iff {M a b : Int} : scB M a b = true ↔ 1 ≤ b ∧ b ≤ M ∧ a ≤ 100000 ∧ -100000 ≤ a ∧ Int.gcd a b = 1 := by
  simp only [scB, Bool.and_eq_true, decide_eq_true_eq, beq_iff_eq, and_assoc]
  constructor
  · rintro ⟨h1, h2, h3, h4, h5⟩; exact ⟨h1, h2, h3, h4, by omega⟩
  · rintro ⟨h1, h2, h3, h4, h5⟩; exact ⟨h1, h2, h3, h4, by omega⟩
theorem scB_rat {M a b : Int} (h : scB M a b = true) : ∃ q : Rat, q.num = a ∧ (q.den : Int) = b := by
  obtain ⟨h1, _, _, _, h5⟩ := scB_iff.1 h
  exact lowest_rat (by omega) h5
theorem scB_small {a b : Int} (h : scB 24 a b = true) : ∃ q : Rat, (a, b) = pr q ∧ smallQ q := by
  obtain ⟨q, rfl, rfl⟩ := scB_rat h
  obtain ⟨_, h2, h3, h4, _⟩ := scB_iff.1 h
  exact ⟨q, rfl, h2, h4, h3⟩
theorem small_scB {q : Rat} (h : smallQ q) : scB 24 q.num q.den = true := scB_iff.2 ⟨by have := den_pos q; omega, h.1, h.2.2, h.2.1, rat_lowest q⟩
/-- Payments of n players. -/
def payB (n : Nat) (ps : List (Int × Int)) : Bool := ps.all (fun p => scB 24 p.1 p.2) && decide (ps.length = n)
theorem payB_rats {n : Nat} {ps : List (Int × Int)} (h : payB n ps = true) : ∃ qs : List Rat, ps = qs.map pr ∧ qs.length = n ∧ ∀ q ∈ qs, smallQ q := by
  unfold payB at h
  rw [Bool.and_eq_true, decide_eq_true_eq, List.all_eq_true] at h
  obtain ⟨h, hl⟩ := h
  suffices ∃ qs : List Rat, ps = qs.map pr ∧ ∀ q ∈ qs, smallQ q by
    obtain ⟨qs, h1, h2⟩ := this
    exact ⟨qs, h1, by rw [← hl, h1, List.length_map], h2⟩
  clear hl
  induction ps with
  | nil => exact ⟨[], rfl, by simp⟩
  | cons p ps ih =>
    obtain ⟨qs, h1, h2⟩ := ih fun x hx => h x (by simp [hx])
    obtain ⟨q, h3, h4⟩ := scB_small (h p (by simp))
    refine ⟨q :: qs, ?_, ?_⟩
    · rw [List.map_cons, ← h1, ← h3]
    · intro x hx
      rcases List.mem_cons.1 hx with rfl | hx
      · exact h4
      · exact h2 x hx
theorem payB_of {n : Nat} {qs : List Rat} (hl : qs.length = n) (h : ∀ q ∈ qs, smallQ q) : payB n (qs.map pr) = true := by
  unfold payB
  rw [Bool.and_eq_true, decide_eq_true_eq, List.all_eq_true]
  refine ⟨fun p hp => ?_, by rw [List.length_map, hl]⟩
  obtain ⟨q, hq, rfl⟩ := List.mem_map.1 hp
  exact small_scB (h q hq)

/-- A pair times D. -/
def scN (D : Int) (p : Int × Int) : Int := p.1 * (D / p.2)
/-- What the set s pays of the first k, times D. -/
def payT (ns : List Int) : Nat → Nat → Int
  | 0, _ => 0
  | k + 1, s => payT ns k s + ns.getD k 0 * (if s.testBit k then 1 else 0)
def payRow (ns : List Int) (k N : Nat) : List Int := (List.range N).map (payT ns k)
def payMix (ns : List Int) (k j N : Nat) : List Int := (List.range N).map fun s => if s < j then payT ns (k + 1) s else payT ns k s
theorem payRow_length (ns : List Int) (k N : Nat) : (payRow ns k N).length = N := by simp [payRow]
theorem payMix_length (ns : List Int) (k j N : Nat) : (payMix ns k j N).length = N := by simp [payMix]
theorem payRow_get {ns : List Int} {k N s : Nat} (h : s < N) : (payRow ns k N)[s]? = some (payT ns k s) := by simp [payRow, h]
theorem payRow_zero (ns : List Int) (N : Nat) : payRow ns 0 N = List.replicate N 0 := by
  apply List.ext_getElem?
  intro i
  simp only [payRow, List.getElem?_map, List.getElem?_replicate]
  by_cases h : i < N <;> simp [h, payT]
theorem payMix_zero (ns : List Int) (k N : Nat) : payMix ns k 0 N = payRow ns k N := by simp [payMix, payRow]
theorem payMix_full (ns : List Int) (k N : Nat) : payMix ns k N N = payRow ns (k + 1) N := by
  unfold payMix payRow
  apply List.map_congr_left
  intro s hs
  rw [List.mem_range] at hs
  rw [if_pos hs]
theorem payMix_get {ns : List Int} {k j N : Nat} (h : j < N) : (payMix ns k j N)[j]? = some (payT ns k j) := by simp [payMix, h]
theorem payMix_succ {ns : List Int} {k j N : Nat} (h : j < N) : payMix ns k (j + 1) N = (payMix ns k j N).set j (payT ns (k + 1) j) := by
  apply List.ext_getElem?
  intro i
  rw [List.getElem?_set]
  by_cases hij : j = i
  · subst hij
    rw [if_pos rfl, if_pos (by rw [payMix_length]; exact h)]
    simp [payMix, h]
  · rw [if_neg hij]
    simp only [payMix, List.getElem?_map]
    by_cases hi : i < N
    · simp only [List.getElem?_range hi, Option.map_some]
      congr 1
      by_cases h1 : i < j
      · rw [if_pos h1, if_pos (by omega)]
      · rw [if_neg h1, if_neg (by omega)]
    · simp [hi]
theorem payT_bd {ns : List Int} {m : Int} (h : ∀ x ∈ ns, -m ≤ x ∧ x ≤ m) (hm : 0 ≤ m) (k s : Nat) : -(m * k) ≤ payT ns k s ∧ payT ns k s ≤ m * k := by
  induction k with
  | zero => simp [payT]
  | succ k ih =>
    have h1 := getD_bd h hm k
    have e : m * ((k + 1 : Nat) : Int) = m * k + m := by rw [Int.natCast_add, Int.mul_add]; omega
    rw [e]
    simp only [payT]
    split <;> omega
/-- payDen. -/
def PD : Int := 5354228880
theorem PD_eq : (5354228880 : Int) = PD := rfl
theorem PD_dvd {b : Int} (h1 : 1 ≤ b) (h2 : b ≤ 24) : b ∣ PD := by
  obtain ⟨n, rfl⟩ := Int.eq_ofNat_of_zero_le (show 0 ≤ b by omega)
  have h : ∀ n : Nat, n < 25 → 1 ≤ n → (n : Int) ∣ PD := by decide +kernel
  exact h n (by omega) (by omega)
theorem scN_rat {q : Rat} {D : Int} (h : (q.den : Int) ∣ D) : ((scN D (pr q) : Int) : Rat) = (D : Rat) * q := by
  obtain ⟨k, hk⟩ := h
  have hd := den_pos q
  have e : D / (q.den : Int) = k := by rw [hk, Int.mul_ediv_cancel_left _ (by omega)]
  have h0 : ((q.den : Int) : Rat) ≠ 0 := by
    intro h
    have : (q.den : Int) = 0 := by exact_mod_cast h
    omega
  show ((q.num * (D / (q.den : Int)) : Int) : Rat) = _
  rw [e, hk, Rat.intCast_mul, Rat.intCast_mul]
  have hq : q = (q.num : Rat) / ((q.den : Int) : Rat) := by
    conv => lhs; rw [← Rat.num_divInt_den q]
    rw [Rat.divInt_eq_div]
  have aux : ∀ (x n d : Rat), d ≠ 0 → x = n / d → d * x = n := by
    intro x n d h0 h
    rw [h, Rat.mul_comm, Rat.div_mul_cancel h0]
  have := aux q _ _ h0 hq
  rw [Rat.mul_comm ((q.den : Int) : Rat), Rat.mul_assoc, this, Rat.mul_comm]
theorem payT_rat {qs : List Rat} {D : Int} (h : ∀ q ∈ qs, (q.den : Int) ∣ D) (s k : Nat) (hk : k ≤ qs.length) : ((payT ((qs.map pr).map (scN D)) k s : Int) : Rat) = (D : Rat) * paysTo qs s k := by
  induction k with
  | zero => simp [payT, paysTo]
  | succ k ih =>
    have hq : qs[k]? = some qs[k] := List.getElem?_eq_getElem (by omega)
    have e1 : ((qs.map pr).map (scN D)).getD k 0 = scN D (pr qs[k]) := by rw [List.getD_eq_getElem?_getD]; simp [hq]
    have e2 : qs.getD k 0 = qs[k] := by rw [List.getD_eq_getElem?_getD, hq]; rfl
    rw [payT, paysTo_succ, e1, e2, Rat.intCast_add, ih (by omega)]
    split
    · rw [Int.mul_one, scN_rat (h _ (List.getElem_mem _)), Rat.mul_add]
    · rw [Int.mul_zero]; show _ + ((0 : Int) : Rat) = _; rw [Rat.intCast_zero, Rat.add_zero]
theorem PD_pos : (0 : Rat) < (PD : Rat) := by decide +kernel
theorem scN_bd {D a b : Int} (h : scB 24 a b = true) (hD : 0 ≤ D) : -(100000 * D) ≤ scN D (a, b) ∧ scN D (a, b) ≤ 100000 * D ∧ 0 ≤ D / b ∧ D / b ≤ D := by
  obtain ⟨h1, h2, h3, h4, _⟩ := scB_iff.1 h
  have e1 : D / b ≤ D := Int.ediv_le_self _ hD
  have e2 : 0 ≤ D / b := Int.ediv_nonneg hD (by omega)
  have := mul_bd (m := 100000) (by omega) h3 e2 e1
  exact ⟨this.1, this.2, e2, e1⟩

/- Contract: scaled of package games. -/

set_option maxHeartbeats 1600000 in
theorem scaled_no (a b D M : Int) (w : World) (_ : 0 ≤ M ∧ M ≤ 100) (ha : -9223372036854775808 ≤ a ∧ a ≤ 9223372036854775807) (hb : -9223372036854775808 ≤ b ∧ b ≤ 9223372036854775807) (h : scB M a b = false) :
    Calls Tryd.prog 63 #[.agg #[.int .i64 a, .int .i64 b], .int .i64 D, .int .i64 M] w fun e w' => e = .returned (.tuple #[.int .i64 0, .bool false]) ∧ Below w.heap.size w w' := by
  have HS := Lib.hid h
  clear h
  by_cases h1 : b < 1
  · go_enter Tryd.func63, Tryd.ntmps63
    go_wp2_with fail
    go_ret2
    exact ⟨rfl, (Below.refl _ _).alloc (Nat.le_refl _) _⟩
  · by_cases h2 : M < b
    · go_enter Tryd.func63, Tryd.ntmps63
      go_wp2_with fail
      go_ret2
      exact ⟨rfl, (Below.refl _ _).alloc (Nat.le_refl _) _⟩
    · by_cases h3 : 100000 < a
      · go_enter Tryd.func63, Tryd.ntmps63
        go_wp2_with fail
        go_ret2
        exact ⟨rfl, (Below.refl _ _).alloc (Nat.le_refl _) _⟩
      · by_cases h4 : a < -100000
        · go_enter Tryd.func63, Tryd.ntmps63
          go_wp2_with fail
          go_ret2
          exact ⟨rfl, (Below.refl _ _).alloc (Nat.le_refl _) _⟩
        · have hg : ((Int.gcd a b : Int) != 1) = true := by
            rw [bne_iff_ne]
            intro hg
            have := HS.out
            rw [scB_iff.2 ⟨by omega, by omega, by omega, by omega, by omega⟩] at this
            cases this
          go_enter Tryd.func63, Tryd.ntmps63
          go_wp2_with fail
          refine (ggcd_any a b _ (by omega) (by omega) (by omega) (by omega)).mono ?_
          rintro e w' ⟨rfl, n, rfl⟩
          go_wp2_with fail
          go_ret2
          exact ⟨rfl, below_drewN ((Below.refl _ _).alloc (Nat.le_refl _) _) _⟩

set_option maxHeartbeats 1600000 in
theorem scaled_yes (a b D M : Int) (w : World) (hM : 0 ≤ M ∧ M ≤ 24) (hD : 0 ≤ D ∧ D ≤ 5354228880) (h : scB M a b = true) :
    Calls Tryd.prog 63 #[.agg #[.int .i64 a, .int .i64 b], .int .i64 D, .int .i64 M] w fun e w' => e = .returned (.tuple #[.int .i64 (scN D (a, b)), .bool true]) ∧ Below w.heap.size w w' := by
  obtain ⟨h1, h2, h3, h4, hg⟩ := scB_iff.1 h
  have hg' : ((Int.gcd a b : Int) != 1) = false := by rw [hg]; rfl
  have hbd := scN_bd (D := D) (a := a) (b := b) (scB_iff.2 ⟨h1, by omega, h3, h4, hg⟩) hD.1
  have hk : Int.tdiv D b = D / b := Int.tdiv_eq_ediv_of_nonneg hD.1
  obtain ⟨k, hk2⟩ : ∃ k, k = D / b := ⟨_, rfl⟩
  have hsc : scN D (a, b) = a * k := by rw [hk2]; rfl
  rw [hsc] at hbd ⊢
  rw [← hk2] at hk hbd
  have e1 : IntKind.i64.wrap (a * k) = a * k := IntWalk.i64_in _ (by omega)
  have e2 : IntKind.i64.wrap k = k := IntWalk.i64_in _ (by omega)
  have HK2 := Lib.hid (And.intro hk2 hsc)
  clear hk2 hsc h hg
  go_enter Tryd.func63, Tryd.ntmps63
  go_wp2_with fail
  refine (ggcd_any a b _ (by omega) (by omega) (by omega) (by omega)).mono ?_
  rintro e w' ⟨rfl, n, rfl⟩
  go_wp2_with fail
  go_quiet (fail)
  go_wp2_with fail
  go_ret2
  exact ⟨rfl, below_drewN (below_drewN ((Below.refl _ _).alloc (Nat.le_refl _) _) _) _⟩

/- Contracts: the copy of the beginning of a slice of fractions, and Payments of package corrodyref07. -/

theorem payB_elem {n k : Nat} {ps : List (Int × Int)} {p : Int × Int} (h : ps[k]? = some p) (hb : scB 24 p.1 p.2 = false) : payB n ps = false := by
  unfold payB
  have : ps.all (fun p => scB 24 p.1 p.2) = false := by
    rw [List.all_eq_false]
    exact ⟨p, List.mem_of_getElem? h, by simp [hb]⟩
  rw [this, Bool.false_and]
theorem takeP_succ {ps : List (Int × Int)} {k : Nat} {x : Int × Int} (h : ps[k]? = some x) : ps.take (k + 1) = ps.take k ++ [x] := by
  rw [List.take_add_one, h]; rfl
theorem allP_succ {ps : List (Int × Int)} {k : Nat} {p : Int × Int} (h : ps[k]? = some p) (ha : (ps.take k).all (fun p => scB 24 p.1 p.2) = true) (hp : scB 24 p.1 p.2 = true) : (ps.take (k + 1)).all (fun p => scB 24 p.1 p.2) = true := by
  rw [takeP_succ h, List.all_append, ha]; simp [hp]
theorem payB_all {n m : Nat} {ps : List (Int × Int)} (hl : ps.length = m) (ha : (ps.take m).all (fun p => scB 24 p.1 p.2) = true) : payB n ps = decide (m = n) := by
  unfold payB
  rw [List.take_of_length_le (by omega)] at ha
  rw [ha, hl, Bool.true_and]
theorem low_of_sc {a b : Int} (h : scB 24 a b = true) : lowB a b = true := by
  obtain ⟨h1, _, _, h4, h5⟩ := scB_iff.1 h
  simp only [lowB, h5, Bool.and_eq_true, decide_eq_true_eq]
  exact ⟨⟨by omega, by omega⟩, rfl⟩
theorem sc_of_low {a b : Int} (h : lowB a b = true) (h1 : b ≤ 24) (h2 : -100000 ≤ a) (h3 : a ≤ 100000) : scB 24 a b = true := by
  simp only [lowB, Bool.and_eq_true, decide_eq_true_eq, beq_iff_eq] at h
  exact scB_iff.2 ⟨h.1.1, h1, h3, h2, by omega⟩


/- Contract: payments of package games: what each set pays, times payDen. -/

/-- The payments times payDen. -/
def payN (ps : List (Int × Int)) : List Int := ps.map (scN PD)
theorem payN_get {ps : List (Int × Int)} {k : Nat} {p : Int × Int} (h : ps[k]? = some p) : (payN ps).getD k 0 = scN PD p := by
  unfold payN; rw [List.getD_eq_getElem?_getD]; simp [h]
/-- What payments leaves. -/
def PayPost (n N : Nat) (ps : List (Int × Int)) (w : World) (e : Ending) (w' : World) : Prop :=
  Below w.heap.size w w' ∧ ((payB n ps = true ∧ ∃ g, e = .returned (.tuple #[.slice (some ⟨g, 0, none⟩) N N, .bool true]) ∧ w.heap.size ≤ g ∧ Blk w' g 3 (arr (payRow (payN ps) n N))) ∨ (payB n ps = false ∧ e = .returned (.tuple #[.slice none 0 0, .bool false])))
theorem payN_bd {ps : List (Int × Int)} (h : ps.all (fun p => scB 24 p.1 p.2) = true) : ∀ x ∈ payN ps, -535422888000000 ≤ x ∧ x ≤ 535422888000000 := by
  intro x hx
  obtain ⟨p, hp, rfl⟩ := List.mem_map.1 hx
  have := scN_bd (D := PD) ((List.all_eq_true.1 h) p hp) (by decide)
  have e : (100000 : Int) * PD = 535422888000000 := by decide
  rw [e] at this
  exact ⟨this.1, this.2.1⟩
theorem payN_take_bd {ps : List (Int × Int)} {k : Nat} (h : (ps.take k).all (fun p => scB 24 p.1 p.2) = true) (s : Nat) : ∀ j, j ≤ k → -(535422888000000 * (j : Int)) ≤ payT (payN ps) j s ∧ payT (payN ps) j s ≤ 535422888000000 * (j : Int) := by
  intro j
  induction j with
  | zero => intro _; simp [payT]
  | succ j ih =>
    intro hj
    have := ih (by omega)
    have e : (535422888000000 : Int) * ((j + 1 : Nat) : Int) = 535422888000000 * (j : Int) + 535422888000000 := by omega
    rw [e]
    have h1 : -535422888000000 ≤ (payN ps).getD j 0 ∧ (payN ps).getD j 0 ≤ 535422888000000 := by
      cases hp : ps[j]? with
      | none =>
        have : (payN ps).getD j 0 = 0 := by unfold payN; rw [List.getD_eq_getElem?_getD]; simp [hp]
        omega
      | some p =>
        rw [payN_get hp]
        have hm : p ∈ ps.take k := List.mem_of_getElem? (i := j) (by rw [List.getElem?_take_of_lt (by omega)]; exact hp)
        exact payN_bd (ps := [p]) (by have := (List.all_eq_true.1 h) p hm; simp [this]) _ (by simp [payN])
    simp only [payT]
    split <;> omega

set_option maxRecDepth 100000 in
set_option maxHeartbeats 1600000 in
theorem payments_any (C : Option Addr) (N capc : Nat) (A : Option Addr) (m cap n : Nat) (ps : List (Int × Int)) (w : World) (h1n : 1 ≤ n) (hn : n ≤ 4) (hN : N = 2 ^ n) (hl : ps.length = m) (hm : m ≤ 9223372036854775807) (h : Prs w A ps)
    (hr : ∀ p ∈ ps, (-9223372036854775808 ≤ p.1 ∧ p.1 ≤ 9223372036854775807) ∧ -9223372036854775808 ≤ p.2 ∧ p.2 ≤ 9223372036854775807) :
    Calls Tryd.prog 42 #[.slice C N capc, .slice A m cap] w (PayPost n N ps w) := by
  have hnp : N = 2 ∧ n = 1 ∨ N = 4 ∧ n = 2 ∨ N = 8 ∧ n = 3 ∨ N = 16 ∧ n = 4 := by
    subst hN
    match n, h1n, hn with
    | 1, _, _ => simp
    | 2, _, _ => simp
    | 3, _, _ => simp
    | 4, _, _ => simp
  have hN16 : 2 ≤ N ∧ N ≤ 16 := by omega
  have HNP := Lib.hid hnp
  clear hnp hN
  by_cases hmn : m = n
  · have hmk := make_ints N (by omega)
    obtain ⟨ad, rfl, hadw, hc⟩ := h.some_ (by omega)
    have H := Lib.hid (And.intro hl (And.intro hc hr))
    subst hmn
    clear hl hc hr h
    go_enter Tryd.func42, Tryd.ntmps42
    go_wp2_with fail
    refine (players_any _ _ m _ _ HNP.out).mono ?_
    rintro e w' ⟨rfl, rfl⟩
    go_wp2_with fail
    go_loopw [4, 21] (fun sv iv wr => ∃ k : Nat, k ≤ m ∧ iv = .int .i64 k ∧ sv = .slice (some ⟨w.heap.size, 0, none⟩) N N ∧ (ps.take k).all (fun p => scB 24 p.1 p.2) = true ∧ Blk wr w.heap.size 3 (arr (payRow (payN ps) k N)) ∧ Below w.heap.size w wr) (fun _ iv _ => m - (intOf iv).toNat)
    case atStart => exact ⟨0, Nat.zero_le _, rfl, rfl, by simp, by rw [payRow_zero]; exact Blk.new _ _ _ rfl, (Below.refl _ _).alloc (Nat.le_refl _) _⟩
    case round =>
      obtain ⟨k, hk, rfl, rfl, ha, hbS, hbl⟩ := hrel
      obtain ⟨wo, rfl⟩ : ∃ wo : World, wo = wr := ⟨_, rfl⟩
      have HA := Lib.hid (And.intro ha (And.intro hbS hbl))
      have hSlt := hbS.lt
      clear ha hbS
      by_cases hlt : k < m
      · obtain ⟨hl, hc, hr⟩ := H.out
        obtain ⟨p, hp⟩ : ∃ p, ps[k]? = some p := ⟨_, List.getElem?_eq_getElem (by omega)⟩
        obtain ⟨g1, g2⟩ := hc k p hp
        have c1 := (hbl.cell (lt_of_cell g1)).trans g1
        have c2 := (hbl.cell (lt_of_cell g2)).trans g2
        obtain ⟨hr1, hr2⟩ := hr p (List.mem_of_getElem? hp)
        obtain ⟨a, b⟩ := p
        have HP := Lib.hid hp
        simp only at c1 c2 hr1 hr2
        clear hl hc hp hr g1 g2 hbl
        cases hs : scB 24 a b
        · have HF : Hid (payB m ps = false) := Lib.hid (payB_elem HP.out hs)
          have HS := Lib.hid hs
          clear hs
          go_wp2_with fail
          refine (scaled_no a b _ 24 _ (by omega) hr1 hr2 HS.out).mono ?_
          rintro e w1 ⟨rfl, hb1⟩
          have HB := Lib.hid ((HA.out.2.2.alloc (Nat.le_of_lt hSlt) _).trans (hb1.mono (by simp; omega)))
          clear hb1
          go_wp2_with fail
          go_ret2
          exact ⟨HB.out, .inr ⟨HF.out, rfl⟩⟩
        · have HS := Lib.hid hs
          have hap := allP_succ HP.out HA.out.1 hs
          have hsn := scN_bd (D := PD) hs (by decide)
          have ePD : (100000 : Int) * PD = 535422888000000 := by decide
          rw [ePD] at hsn
          have hbT := fun s => payN_take_bd HA.out.1 s k (Nat.le_refl _)
          have hbT1 := fun s => payN_take_bd hap s (k + 1) (Nat.le_refl _)
          have hgN := payN_get HP.out
          have hap' := Lib.hid hap
          clear hs ePD hap
          go_wp2_with fail
          refine (scaled_yes a b 5354228880 24 _ (by omega) (by omega) HS.out).mono ?_
          rintro e w1 ⟨rfl, hb1⟩
          rw [PD_eq] at *
          obtain ⟨v, hv⟩ : ∃ v, v = scN PD (a, b) := ⟨_, rfl⟩
          rw [← hv] at hgN hsn ⊢
          have hbS1 : Blk w1 w.heap.size 3 (arr (payRow (payN ps) k N)) := (HA.out.2.1.alloc _).below hb1 (by simp; omega)
          have hbw1 := (HA.out.2.2.alloc (Nat.le_of_lt hSlt) (.cells #[.int .i64 a, .int .i64 b] 41)).trans (hb1.mono (by simp; omega))
          have hS1 := hbS1.lt
          have HT := Lib.hid (And.intro hbT (And.intro hbT1 (And.intro hgN (And.intro hbS1 hbw1))))
          clear hb1 hbS1 hbw1 hbT hbT1 hgN hv c1 c2
          go_wp2_with fail
          go_loopw [35] (fun jv wr => ∃ j : Nat, j ≤ N ∧ jv = .int .i64 j ∧ Blk wr w.heap.size 3 (arr (payMix (payN ps) k j N)) ∧ Below w.heap.size w wr) (fun jv _ => N - (intOf jv).toNat)
          case atStart => exact ⟨0, Nat.zero_le _, rfl, by rw [payMix_zero]; exact HT.out.2.2.2.1, HT.out.2.2.2.2⟩
          case round =>
            obtain ⟨j, hj, rfl, hbS, hbl⟩ := hrel
            by_cases hlj : j < N
            · have hz := payMix_get (ns := payN ps) (k := k) hlj
              have hset := payMix_succ (ns := payN ps) (k := k) hlj
              have ht0 := HT.out.1 j
              have ht1 := HT.out.2.1 j
              have hstep : payT (payN ps) (k + 1) j = payT (payN ps) k j + v * (if j.testBit k then 1 else 0 : Nat) := by
                rw [payT, HT.out.2.2.1]; split <;> rfl
              have hbit := and_shr j k (by omega)
              obtain ⟨z, hzz⟩ : ∃ z, z = payT (payN ps) k j := ⟨_, rfl⟩
              rw [← hzz] at hz ht0 hstep
              obtain ⟨bt, hbt⟩ : ∃ bt : Nat, bt = (if j.testBit k then 1 else 0) := ⟨_, rfl⟩
              have hb1 : bt ≤ 1 := by rw [hbt]; split <;> omega
              rw [← hbt] at hbit hstep
              obtain ⟨z', hz'⟩ : ∃ z', z' = z + v * (bt : Int) := ⟨_, rfl⟩
              rw [hstep, ← hz'] at hset
              have hzb : -5000000000000000 ≤ z' ∧ z' ≤ 5000000000000000 := by
                rw [hz', ← hstep]; omega
              have hvb : -535422888000000 ≤ v * (bt : Int) ∧ v * (bt : Int) ≤ 535422888000000 := by
                have : bt = 0 ∨ bt = 1 := by omega
                rcases this with h | h <;> rw [h] <;> simp <;> omega
              obtain ⟨vb, hvbe⟩ : ∃ vb, vb = v * (bt : Int) := ⟨_, rfl⟩
              rw [← hvbe] at hz' hvb
              have hbit2 : IntKind.i64.wrap ((bt : Int)) = (bt : Int) := IntWalk.i64_in _ (by omega)
              have e1 : IntKind.i64.wrap vb = vb := IntWalk.i64_in _ (by omega)
              have e2 : IntKind.i64.wrap (z + vb) = z' := by rw [← hz']; exact IntWalk.i64_in _ (by omega)
              have e3 : v * (bt : Int) = vb := hvbe.symm
              have c1 : wr.cell? ⟨w.heap.size, j, none⟩ = some (.int .i64 z) := by rw [hbS.cell, arr_get, hz]; rfl
              have f1 : wr.frozen? ⟨w.heap.size, j, none⟩ = false := hbS.frozen j
              have HN := Lib.hid (And.intro hset (And.intro hbS hbl))
              clear hz hset ht0 ht1 hstep hzz hbt hz' hvbe hbS hbl
              go_wp2_with fail
              go_region
              go_wp2_with fail
              go_roundw
              case rel =>
                refine ⟨j + 1, by omega, by go_num, ?_, HN.out.2.2.drew.setCell (Nat.le_refl _) _⟩
                rw [HN.out.1, ← arr_set]
                exact Blk.set_ (w := wr.drew) HN.out.2.1 j _
              case measure => simp [intOf]; omega
            · obtain rfl : N = j := by omega
              rw [payMix_full] at hbS
              have HN := Lib.hid (And.intro hbS hbl)
              clear hbS hbl
              go_wp2_with fail
              go_roundw
              case rel => exact ⟨k + 1, by omega, by go_num, rfl, hap'.out, HN.out.1, HN.out.2⟩
              case measure => simp [intOf]; omega
      · obtain rfl : m = k := by omega
        have HR : Hid (payB m ps = true) := Lib.hid (by rw [payB_all H.out.1 HA.out.1]; simp)
        clear hbl
        go_wp2_with fail
        go_ret2
        exact ⟨HA.out.2.2, .inl ⟨HR.out, _, rfl, Nat.le_refl _, HA.out.2.1⟩⟩
  · have hne : ((m : Int) != (n : Int)) = true := by rw [bne_iff_ne]; omega
    have HF : Hid (payB n ps = false) := Lib.hid (by unfold payB; rw [decide_eq_false (by omega), Bool.and_false])
    clear hl h hr hmn
    go_enter Tryd.func42, Tryd.ntmps42
    go_wp2_with fail
    refine (players_any _ _ n _ _ HNP.out).mono ?_
    rintro e w' ⟨rfl, rfl⟩
    go_wp2_with fail
    go_ret2
    exact ⟨Below.refl _ _, .inr ⟨HF.out, rfl⟩⟩

/- Payments in the core, and the set that objects most, by whole numbers and by fractions: plain Lean. -/

/-- What the set s pays, times payDen. -/
def pI (ps : List (Int × Int)) (n s : Nat) : Int := payT (payN ps) n s
/-- Payments of the players that sum to the cost of all. -/
def sumB (c : List Int) (ps : List (Int × Int)) (n : Nat) : Bool := payB n ps && decide (pI ps n (2 ^ n - 1) = c.getD (2 ^ n - 1) 0 * PD)
def coreTo (c : List Int) (ps : List (Int × Int)) (n k : Nat) : Bool := (List.range k).all fun s => decide (pI ps n s ≤ c.getD s 0 * PD)
def coreI (c : List Int) (ps : List (Int × Int)) (n : Nat) : Bool := sumB c ps n && coreTo c ps n (2 ^ n)
/-- The same by fractions. -/
def coreRTo (c : List Int) (qs : List Rat) (k : Nat) : Bool := (List.range k).all fun s => !decide (((c.getD s 0 : Int) : Rat) < paysL qs s)
theorem coreTo_succ (c : List Int) (ps : List (Int × Int)) (n k : Nat) : coreTo c ps n (k + 1) = (coreTo c ps n k && decide (pI ps n k ≤ c.getD k 0 * PD)) := by
  simp [coreTo, List.range_succ]
theorem coreTo_stop {c : List Int} {ps : List (Int × Int)} {n k N : Nat} (h : k < N) (hb : ¬ pI ps n k ≤ c.getD k 0 * PD) : coreTo c ps n N = false := by
  unfold coreTo
  rw [List.all_eq_false]
  exact ⟨k, by simpa using h, by simpa using hb⟩
theorem coreRTo_succ (c : List Int) (qs : List Rat) (k : Nat) : coreRTo c qs (k + 1) = (coreRTo c qs k && !decide (((c.getD k 0 : Int) : Rat) < paysL qs k)) := by
  simp [coreRTo, List.range_succ]
theorem coreRTo_stop {c : List Int} {qs : List Rat} {k N : Nat} (h : k < N) (hb : ((c.getD k 0 : Int) : Rat) < paysL qs k) : coreRTo c qs N = false := by
  unfold coreRTo
  rw [List.all_eq_false]
  exact ⟨k, by simpa using h, by simpa using hb⟩

theorem smallQ_dvd {q : Rat} (h : smallQ q) : (q.den : Int) ∣ PD := PD_dvd (by have := den_pos q; omega) h.1
theorem pI_rat {qs : List Rat} {n : Nat} (hl : qs.length = n) (h : ∀ q ∈ qs, smallQ q) (s : Nat) : ((pI (qs.map pr) n s : Int) : Rat) = (PD : Rat) * paysL qs s := by
  have := payT_rat (D := PD) (fun q hq => smallQ_dvd (h q hq)) s n (by omega)
  rw [show paysL qs s = paysTo qs s n from by rw [paysL, hl]; rfl]
  exact this
theorem rat_lt_scale (x y : Rat) : (PD : Rat) * x < (PD : Rat) * y ↔ x < y := Rat.mul_lt_mul_left PD_pos
theorem rat_eq_scale (x y : Rat) : (PD : Rat) * x = (PD : Rat) * y ↔ x = y := by
  constructor
  · intro h
    have h0 : (PD : Rat) ≠ 0 := by decide +kernel
    have e : ∀ z : Rat, (PD : Rat) * z / (PD : Rat) = z := fun z => by rw [Rat.mul_comm, Rat.mul_div_cancel h0]
    rw [← e x, h, e y]
  · rintro rfl; rfl
theorem pI_le {qs : List Rat} {n : Nat} (hl : qs.length = n) (h : ∀ q ∈ qs, smallQ q) (s : Nat) (x : Int) : pI (qs.map pr) n s ≤ x * PD ↔ ¬ ((x : Rat) < paysL qs s) := by
  rw [← rat_lt_scale, ← pI_rat hl h, Rat.not_lt, Rat.mul_comm, ← Rat.intCast_mul, Rat.intCast_le_intCast]
theorem pI_eq {qs : List Rat} {n : Nat} (hl : qs.length = n) (h : ∀ q ∈ qs, smallQ q) (s : Nat) (x : Int) : pI (qs.map pr) n s = x * PD ↔ paysL qs s = (x : Rat) := by
  rw [← rat_eq_scale, ← pI_rat hl h, Rat.mul_comm, ← Rat.intCast_mul, Rat.intCast_inj]
theorem coreTo_R {c : List Int} {qs : List Rat} {n : Nat} (hl : qs.length = n) (h : ∀ q ∈ qs, smallQ q) (k : Nat) : coreTo c (qs.map pr) n k = coreRTo c qs k := by
  induction k with
  | zero => rfl
  | succ k ih =>
    rw [coreTo_succ, coreRTo_succ, ih]
    congr 1
    rw [Bool.eq_iff_iff]
    simp only [decide_eq_true_eq, Bool.not_eq_true', decide_eq_false_iff_not]
    exact pI_le hl h k _
theorem sumB_R {c : List Int} {qs : List Rat} {n : Nat} (hl : qs.length = n) (h : ∀ q ∈ qs, smallQ q) : sumB c (qs.map pr) n = decide (paysL qs (2 ^ n - 1) = ((c.getD (2 ^ n - 1) 0 : Int) : Rat)) := by
  unfold sumB
  rw [payB_of hl h, Bool.true_and, decide_eq_decide]
  exact pI_eq hl h _ _

/-- The set that objects most, so far: by whole numbers. -/
def objI (c : List Int) (ps : List (Int × Int)) (n : Nat) : Nat → Nat × Int
  | 0 => (0, 0)
  | k + 1 => let p := objI c ps n k; if p.2 < pI ps n k - c.getD k 0 * PD then (k, pI ps n k - c.getD k 0 * PD) else p
/-- By fractions. -/
def objR (c : List Int) (qs : List Rat) : Nat → Nat × Rat
  | 0 => (0, 0)
  | k + 1 => let p := objR c qs k; if p.2 < paysL qs k - ((c.getD k 0 : Int) : Rat) then (k, paysL qs k - ((c.getD k 0 : Int) : Rat)) else p
theorem obj_R {c : List Int} {qs : List Rat} {n : Nat} (hl : qs.length = n) (h : ∀ q ∈ qs, smallQ q) (k : Nat) : (objI c (qs.map pr) n k).1 = (objR c qs k).1 ∧ (((objI c (qs.map pr) n k).2 : Int) : Rat) = (PD : Rat) * (objR c qs k).2 := by
  induction k with
  | zero => exact ⟨rfl, by simp [objI, objR]⟩
  | succ k ih =>
    have e : ((pI (qs.map pr) n k - c.getD k 0 * PD : Int) : Rat) = (PD : Rat) * (paysL qs k - ((c.getD k 0 : Int) : Rat)) := by
      rw [Rat.intCast_sub, pI_rat hl h, Rat.intCast_mul, Rat.sub_eq_add_neg, Rat.sub_eq_add_neg, Rat.mul_add, Rat.mul_comm ((c.getD k 0 : Int) : Rat), Rat.mul_neg]
    simp only [objI, objR]
    by_cases hlt : (objR c qs k).2 < paysL qs k - ((c.getD k 0 : Int) : Rat)
    · rw [if_pos hlt, if_pos (by rw [← Rat.intCast_lt_intCast, ih.2, e, rat_lt_scale]; exact hlt)]
      exact ⟨rfl, e⟩
    · rw [if_neg hlt, if_neg (by rw [← Rat.intCast_lt_intCast, ih.2, e, rat_lt_scale]; exact hlt)]
      exact ih
theorem objI_nonneg (c : List Int) (ps : List (Int × Int)) (n k : Nat) : 0 ≤ (objI c ps n k).2 := by
  induction k with
  | zero => simp [objI]
  | succ k ih => simp only [objI]; split <;> omega
theorem objI_lt (c : List Int) (ps : List (Int × Int)) (n k : Nat) : (objI c ps n k).1 ≤ k ∧ (0 < k → (objI c ps n k).1 < k) := by
  induction k with
  | zero => simp [objI]
  | succ k ih => simp only [objI]; split <;> simp <;> omega
/-- Whoever objects pays more than the cost. -/
theorem objI_more (c : List Int) (ps : List (Int × Int)) (n k : Nat) (h : (objI c ps n k).1 ≠ 0) : c.getD (objI c ps n k).1 0 * PD < pI ps n (objI c ps n k).1 := by
  induction k with
  | zero => simp [objI] at h
  | succ k ih =>
    simp only [objI] at h ⊢
    split
    · rename_i hlt
      have := objI_nonneg c ps n k
      simp only
      omega
    · rename_i hlt
      rw [if_neg hlt] at h
      exact ih h
/-- Nobody objects exactly if no set pays more than its cost. -/
theorem objI_core (c : List Int) (ps : List (Int × Int)) (n k : Nat) (h0 : pI ps n 0 ≤ c.getD 0 0 * PD) : decide ((objI c ps n k).1 = 0) = coreTo c ps n k ∧ ((objI c ps n k).1 = 0 → (objI c ps n k).2 = 0) := by
  induction k with
  | zero => simp [objI, coreTo]
  | succ k ih =>
    rw [coreTo_succ, ← ih.1]
    by_cases hlt : (objI c ps n k).2 < pI ps n k - c.getD k 0 * PD
    · have e : objI c ps n (k + 1) = (k, pI ps n k - c.getD k 0 * PD) := by simp only [objI]; rw [if_pos hlt]
      rw [e]
      have hn := objI_nonneg c ps n k
      have hk : k ≠ 0 := by rintro rfl; omega
      have : ¬ pI ps n k ≤ c.getD k 0 * PD := by omega
      rw [decide_eq_false this, Bool.and_false]
      exact ⟨decide_eq_false hk, fun h => absurd h hk⟩
    · have e : objI c ps n (k + 1) = objI c ps n k := by simp only [objI]; rw [if_neg hlt]
      rw [e]
      refine ⟨?_, ih.2⟩
      by_cases hz : (objI c ps n k).1 = 0
      · have := ih.2 hz
        have h2 : pI ps n k ≤ c.getD k 0 * PD := by omega
        rw [decide_eq_true h2, Bool.and_true]
      · rw [decide_eq_false hz, Bool.false_and]
theorem pI_zero (ps : List (Int × Int)) (n : Nat) : pI ps n 0 = 0 := by
  unfold pI
  induction n with
  | zero => rfl
  | succ n ih => simp [payT, ih]

/- Contracts: all, CheckCore and Objects of package games. -/

theorem all_any (ac : Addr) (N n1 capc : Nat) (x : Int) (w : World) (hN : n1 + 1 = N) (hm : N ≤ 16) (hc : w.cell? (ac.add n1) = some (.int .i64 x)) :
    Calls Tryd.prog 43 #[.slice (some ac) N capc] w fun e w' => e = .returned (.int .i64 x) ∧ w = w' := by
  have e2 : (N : Int) - 1 = (n1 : Int) := by omega
  have l1 : (n1 : Int) < (N : Int) := by omega
  clear hN
  go_enter Tryd.func43, Tryd.ntmps43
  go_wp2_with fail
  go_ret
  exact ⟨rfl, rfl⟩
theorem all_q (ac : Addr) (N n1 capc m : Nat) (x : Int) (w : World) (hN : n1 + 1 = N) (hm : N ≤ 16) (hc : w.cell? (ac.add n1) = some (.int .i64 x)) :
    Calls Tryd.prog 43 #[.slice (some ac) N capc] (w.drewN m) fun e w'' => e = .returned (.int .i64 x) ∧ ∃ j, w'' = w.drewN j :=
  (all_any ac N n1 capc x _ hN hm (by simpa using hc)).mono fun _ _ hh => ⟨hh.1, m, hh.2.symm⟩

/-- What CheckCore answers. -/
def ccB (c : List Int) (ps : List (Int × Int)) : Bool := if valC c then coreI c ps (plr c) else false
def ccE (c : List Int) : Int := if valC c then 0 else 2

theorem sumB_false_pay {c : List Int} {ps : List (Int × Int)} {n : Nat} (h : payB n ps = false) : sumB c ps n = false := by unfold sumB; rw [h, Bool.false_and]
theorem coreI_of_sum {c : List Int} {ps : List (Int × Int)} {n : Nat} (h : sumB c ps n = false) : coreI c ps n = false := by unfold coreI; rw [h, Bool.false_and]

/-- The facts that both walks need once payments are valid. -/
structure PayIn (c : List Int) (ps : List (Int × Int)) (n N n1 : Nat) (x y : Int) : Prop where
  hN1 : n1 + 1 = N
  hx : c[n1]? = some x
  hxb : 0 ≤ x ∧ x ≤ 1000
  hy : (payRow (payN ps) n N)[n1]? = some y
  hyb : -2200000000000000 ≤ y ∧ y ≤ 2200000000000000
  hsum : sumB c ps n = decide (y = x * 5354228880)
  hall : ∀ s, s < N → -2200000000000000 ≤ pI ps n s ∧ pI ps n s ≤ 2200000000000000
theorem payIn {c : List Int} {ps : List (Int × Int)} {n N : Nat} (hl : c.length = N) (hv : valC c = true) (hn : n = plr c) (hp : payB n ps = true) : ∃ n1 x y, PayIn c ps n N n1 x y := by
  have hpw := valC_pow hv
  have hlen := (valC_iff.1 hv).1
  have hN : N = 2 ^ n := by rw [← hl, hn]; exact hpw.1
  obtain ⟨n1, hn1⟩ : ∃ n1, n1 + 1 = N := ⟨N - 1, by omega⟩
  obtain ⟨x, hx⟩ : ∃ x, c[n1]? = some x := ⟨_, List.getElem?_eq_getElem (by omega)⟩
  have hy := payRow_get (ns := payN ps) (k := n) (show n1 < N by omega)
  have hpa : (ps.take n).all (fun p => scB 24 p.1 p.2) = true := by
    unfold payB at hp
    rw [Bool.and_eq_true, List.all_eq_true] at hp
    exact List.all_eq_true.2 fun p h => hp.1 p (List.mem_of_mem_take h)
  have hb : ∀ s, -2200000000000000 ≤ pI ps n s ∧ pI ps n s ≤ 2200000000000000 := fun s => by
    have h := payN_take_bd hpa s n (Nat.le_refl _)
    have h4 : (n : Int) ≤ 4 := by rw [hn]; have := hpw.2.2; omega
    unfold pI
    omega
  have e1 : 2 ^ n - 1 = n1 := by omega
  refine ⟨n1, x, _, hn1, hx, (valC_iff.1 hv).2.2 x (List.mem_of_getElem? hx), hy, hb n1, ?_, fun s _ => hb s⟩
  unfold sumB
  rw [hp, Bool.true_and, e1, List.getD_eq_getElem?_getD, hx]
  rfl

set_option maxRecDepth 100000 in
set_option maxHeartbeats 1600000 in
theorem checkcore_any (C : Option Addr) (N capc : Nat) (A : Option Addr) (m cap : Nat) (c : List Int) (ps : List (Int × Int)) (w : World) (hlc : c.length = N) (hNm : N ≤ 9223372036854775807) (hl : ps.length = m) (hm : m ≤ 9223372036854775807)
    (hc : Ints w C c) (h : Prs w A ps) (hr : ∀ p ∈ ps, (-9223372036854775808 ≤ p.1 ∧ p.1 ≤ 9223372036854775807) ∧ -9223372036854775808 ≤ p.2 ∧ p.2 ≤ 9223372036854775807) :
    Calls Tryd.prog 17 #[.slice C N capc, .slice A m cap] w fun e w' => e = .returned (.tuple #[.bool (ccB c ps), .int .i64 (ccE c)]) ∧ Below w.heap.size w w' := by
  have H := Lib.hid (And.intro hlc (And.intro hl (And.intro hc (And.intro h hr))))
  clear hlc hl hc h hr
  cases hv : valC c
  · have HV : Hid (ccB c ps = false ∧ ccE c = 2) := Lib.hid ⟨by simp [ccB, hv], by simp [ccE, hv]⟩
    have HVV := Lib.hid hv
    clear hv
    go_enter Tryd.func17, Tryd.ntmps17
    go_wp2_with fail
    refine (valid_any C N capc c _ H.out.1 hNm H.out.2.2.1).mono ?_
    rintro e w1 ⟨rfl, hb⟩
    rw [HVV.out]
    have HB := Lib.hid hb
    clear hb
    go_wp2_with fail
    go_ret2
    exact ⟨by rw [HV.out.1, HV.out.2]; rfl, HB.out⟩
  · have hpw := valC_pow hv
    have hlen := (valC_iff.1 hv).1
    obtain ⟨n, hn⟩ : ∃ n, n = plr c := ⟨_, rfl⟩
    have HV : Hid (ccB c ps = coreI c ps n ∧ ccE c = 0) := Lib.hid ⟨by simp [ccB, hv, hn], by simp [ccE, hv]⟩
    rw [← hn] at hpw
    have hN16 : 2 ≤ N ∧ N ≤ 16 := by have := H.out.1; omega
    have hC : ∃ ac, C = some ac := by obtain ⟨ac, h, _⟩ := H.out.2.2.1.some_ (by have := H.out.1; omega); exact ⟨ac, h⟩
    obtain ⟨ac, rfl⟩ := hC
    have HVV := Lib.hid (And.intro hv (And.intro hn hpw))
    have hn4 : 1 ≤ n ∧ n ≤ 4 := hpw.2
    clear hv hpw hn hlen
    go_enter Tryd.func17, Tryd.ntmps17
    go_wp2_with fail
    refine (valid_any (some ac) N capc c _ H.out.1 hNm H.out.2.2.1).mono ?_
    rintro e w1 ⟨rfl, hb⟩
    rw [HVV.out.1]
    have HB := Lib.hid hb
    clear hb
    go_wp2_with fail
    refine (payments_any (some ac) N capc A m cap n ps _ hn4.1 hn4.2 (by rw [← H.out.1]; exact HVV.out.2.2.1) H.out.2.1 hm (H.out.2.2.2.1.below HB.out) H.out.2.2.2.2).mono ?_
    rintro e w2 ⟨hb2, hp | hp⟩
    · obtain ⟨hp, g, rfl, hg, hG⟩ := hp
      have HB2 := Lib.hid (And.intro (HB.out.trans (hb2.mono HB.out.size)) (And.intro hG hp))
      have HI := Lib.hid (H.out.2.2.1.below (HB.out.trans (hb2.mono HB.out.size)))
      obtain ⟨n1, x, y, hF⟩ := payIn H.out.1 HVV.out.1 HVV.out.2.1 hp
      have c1 : w2.cell? (ac.add n1) = some (.int .i64 x) := HI.out.some2 n1 _ (by simp [hF.hx])
      have c2 : w2.cell? ⟨g, n1, none⟩ = some (.int .i64 y) := by rw [hG.cell, arr_get, hF.hy]; rfl
      have hxb := hF.hxb
      have hyb := hF.hyb
      have hn1 := hF.hN1
      have HALL : Hid (∀ m, Calls Tryd.prog 43 #[.slice (some ac) N capc] (w2.drewN m) fun e w'' => e = .returned (.int .i64 x) ∧ ∃ j, w'' = w2.drewN j) := Lib.hid fun m => all_q ac N n1 capc m x w2 hn1 hN16.2 c1
      have e1 : IntKind.i64.wrap ((N : Int) - 1) = (n1 : Int) := by rw [IntWalk.i64_in _ (by omega)]; omega
      have e2 : (N : Int) - 1 = (n1 : Int) := by omega
      have l1 : (n1 : Int) < (N : Int) := by omega
      have l2 : (0 : Int) ≤ (n1 : Int) := by omega
      have e3 : IntKind.i64.wrap (x * 5354228880) = x * 5354228880 := IntWalk.i64_in _ (by omega)
      have HF := Lib.hid hF
      clear hb2 hG hp hF hn1 c1
      by_cases hne : y = x * 5354228880
      · have hq : (y != x * 5354228880) = false := by simp [hne]
        have HS : Hid (sumB c ps n = true) := Lib.hid (by rw [HF.out.hsum]; exact decide_eq_true hne)
        clear hne
        go_wp2_with fail
        go_quiet ((go_at_call 43; exact HALL.out _))
        clear e1 e2 e3 l1 l2 hq c2
        go_wp2_with fail
        go_loop [37] (fun iv => ∃ k : Nat, k ≤ N ∧ iv = .int .i64 k ∧ coreTo c ps n k = true) (fun iv => N - (intOf iv).toNat)
        case atStart => exact ⟨0, Nat.zero_le _, rfl, rfl⟩
        case round =>
          obtain ⟨k, hk, rfl, ht⟩ := hrel
          have HT := Lib.hid ht
          clear ht
          by_cases hlt : k < N
          · obtain ⟨z, hz⟩ : ∃ z, c[k]? = some z := ⟨_, List.getElem?_eq_getElem (by have := H.out.1; omega)⟩
            have c1 : w2.cell? (ac.add k) = some (.int .i64 z) := HI.out.some2 k _ (by simp [hz])
            have c2 : w2.cell? ⟨g, k, none⟩ = some (.int .i64 (pI ps n k)) := by rw [HB2.out.2.1.cell, arr_get, payRow_get hlt]; rfl
            have hzb := (valC_iff.1 HVV.out.1).2.2 z (List.mem_of_getElem? hz)
            have hpb := HF.out.hall k hlt
            have hgz : c.getD k 0 = z := by rw [List.getD_eq_getElem?_getD, hz]; rfl
            have HP : Hid (z * PD = z * 5354228880 ∧ c.getD k 0 = z) := Lib.hid ⟨rfl, hgz⟩
            obtain ⟨v, hvv⟩ : ∃ v, v = pI ps n k := ⟨_, rfl⟩
            have HVp := Lib.hid hvv
            rw [← hvv] at c2 hpb
            clear hz hgz hvv
            by_cases hgt : z * 5354228880 < v
            · have HR : Hid (coreI c ps n = false) := Lib.hid (by unfold coreI; rw [coreTo_stop (k := k) (by rw [← HVV.out.2.2.1, H.out.1]; exact hlt) (by rw [HP.out.2, HP.out.1, ← HVp.out]; omega), Bool.and_false])
              go_wp2_with fail
              go_ret2
              exact ⟨by rw [HV.out.1, HV.out.2, HR.out]; rfl, below_drewN HB2.out.1 _⟩
            · have HN : Hid (coreTo c ps n (k + 1) = true) := Lib.hid (by rw [coreTo_succ, HT.out, HP.out.2, HP.out.1, ← HVp.out, decide_eq_true (by omega)]; rfl)
              go_wp2_with fail
              go_round
              case rel => exact ⟨k + 1, by omega, by go_num, HN.out⟩
              case measure => simp [intOf]; omega
          · obtain rfl : N = k := by omega
            have HR : Hid (coreI c ps n = true) := Lib.hid (by unfold coreI; rw [HS.out, ← HVV.out.2.2.1, H.out.1, HT.out]; rfl)
            go_wp2_with fail
            go_ret2
            exact ⟨by rw [HV.out.1, HV.out.2, HR.out]; rfl, below_drewN HB2.out.1 _⟩
      · have hq : (y != x * 5354228880) = true := by simpa using hne
        have HR : Hid (coreI c ps n = false) := Lib.hid (coreI_of_sum (by rw [HF.out.hsum]; exact decide_eq_false hne))
        clear hne
        go_wp2_with fail
        go_quiet ((go_at_call 43; exact HALL.out _))
        go_wp2_with fail
        go_ret2
        exact ⟨by rw [HV.out.1, HV.out.2, HR.out]; rfl, below_drewN HB2.out.1 _⟩
    · obtain ⟨hp, rfl⟩ := hp
      have HR : Hid (coreI c ps n = false) := Lib.hid (coreI_of_sum (sumB_false_pay hp))
      have HB2 := Lib.hid (HB.out.trans (hb2.mono HB.out.size))
      clear hb2 hp
      go_wp2_with fail
      go_quiet (fail)
      go_wp2_with fail
      go_ret2
      exact ⟨by rw [HV.out.1, HV.out.2, HR.out]; rfl, below_drewN HB2.out _⟩

/- Contract: the function that Core of package games calls for each choice of sets. -/

/-- The system of a choice of sets. -/
def sysC (c : List Int) (n : Nat) (sets : List Nat) : List (List Int) := sets.map fun s => rowL n s (c.getD s 0)
/-- One unknown. -/
def solQ (x l : Int) : Rat := Rat.divInt (if l < 0 then -x else x) (max l (-l))
/-- The unknowns. -/
def solL (h : Nat → Nat → Int) (l : Int) (n : Nat) : List Rat := (List.range n).map fun i => solQ (h i n) l
/-- The corner of a choice of sets, if it is in the core. -/
def cand (c : List Int) (n : Nat) (sets : List Nat) : Option (List Rat) :=
  if sets.getD (n - 1) 0 = 2 ^ n - 1 then
    match slvTo (entry (sysC c n sets)) n n with
    | none => none
    | some (h, l) => if ccB c ((solL h l n).map pr) then some (solL h l n) else none
  else none

theorem rowL_get (n s : Nat) (x : Int) (j : Nat) (hj : j < n) : (rowL n s x).getD j 0 = bitI s j := by
  unfold rowL
  rw [List.getD_eq_getElem?_getD, List.getElem?_append_left (by simpa using hj)]
  simp [hj]
theorem rowL_last (n s : Nat) (x : Int) : (rowL n s x).getD n 0 = x := by
  unfold rowL
  rw [List.getD_eq_getElem?_getD, List.getElem?_append_right (by simp)]
  simp
theorem sysC_bd {c : List Int} (hc : ∀ x ∈ c, 0 ≤ x ∧ x ≤ 1000) (n : Nat) (sets : List Nat) (hl : sets.length = n) : BdM 1 1000 (entry (sysC c n sets)) n := by
  have e : ∀ i, i < n → ∃ s, (sysC c n sets).getD i [] = rowL n s (c.getD s 0) := by
    intro i hi
    obtain ⟨s, hs⟩ : ∃ s, sets[i]? = some s := ⟨_, List.getElem?_eq_getElem (by omega)⟩
    exact ⟨s, by unfold sysC; rw [List.getD_eq_getElem?_getD, List.getElem?_map, hs]; rfl⟩
  refine ⟨fun i j hi hj => ?_, fun i hi => ?_⟩
  · obtain ⟨s, hs⟩ := e i hi
    unfold entry
    rw [hs, rowL_get n s _ j hj]
    rcases bitI_cases s j with h | h <;> rw [h] <;> decide
  · obtain ⟨s, hs⟩ := e i hi
    unfold entry
    rw [hs, rowL_last]
    have := costs_get hc s
    omega
theorem sty_sys : STy 80 22 (.slice none 0 0) 1 24 := ⟨Tryd.underlying80, info_ints, rfl, by decide, by decide⟩

theorem at_far {w : World} {A : Option Addr} {cs : List Value} (h : At w A cs) {p : Addr} (hp : ∀ ad, A = some ad → ad.block ≠ p.block) (v : Value) : At (w.setCell p v) A cs := by
  intro i u hu
  obtain ⟨ad, hA, hc⟩ := h i u hu
  refine ⟨ad, hA, ?_⟩
  rw [World.cell?_of_block (w := w) (Below.heap_setCell w p v _ (by rw [add_block]; exact hp ad hA))]
  exact hc
/-- What the function leaves. -/
def Core1Post (c : List Int) (n Bf : Nat) (sets : List Nat) (w : World) (e : Ending) (w' : World) : Prop :=
  Kept w.heap.size [Bf] w w' ∧ ((cand c n sets = none ∧ e = .returned (.bool true) ∧ Blk w' Bf 35 #[.slice none 0 0]) ∨
    ∃ qs A' c', cand c n sets = some qs ∧ e = .returned (.bool false) ∧ Blk w' Bf 35 #[.slice A' n c'] ∧ qs.length = n ∧ Fracs w' A' qs ∧ n ≤ c' ∧ c' ≤ 9223372036854775807)

set_option maxRecDepth 100000 in
set_option maxHeartbeats 3200000 in
theorem core1_any (A0 : Option Addr) (N cap0 n : Nat) (c : List Int) (Bc Bk Bf : Nat) (A : Option Addr) (cs : Nat) (sets : List Nat) (w : World)
    (hc : Ints w A0 c) (hl : c.length = N) (hv : valC c = true) (hn : plr c = n) (hsl : sets.length = n) (hsb : ∀ s ∈ sets, s < N) (hA : Ints w A (sets.map Int.ofNat))
    (bc : Blk w Bc 22 #[.slice A0 N cap0]) (bk : Blk w Bk 64 #[.slice A0 N cap0]) (bf : Blk w Bf 35 #[.slice none 0 0]) :
    Calls Tryd.prog 39 #[.slice A n cs, .pointer (some ⟨Bc, 0, none⟩), .pointer (some ⟨Bk, 0, none⟩), .pointer (some ⟨Bf, 0, none⟩)] w (Core1Post c n Bf sets w) := by
  have qT : ∀ (w : World) (a : Option Addr) (n c n' c' : Nat), (binOp .eql 35 (.slice a n c) (.slice none n' c')).run Tryd.prog w = .ok (.bool a.isNone) w := fun w a n c n' c' => Lib.run_eql_slice_nil w _ _ a n c n' c' Tryd.underlying35
  have hnp := plr_np hv
  rw [hl, hn] at hnp
  have hcb := (valC_iff.1 hv).2.2
  have hn4 : 1 ≤ n ∧ n ≤ 4 := by omega
  have hN : N = 2 ^ n := by rcases hnp with ⟨h1, h2⟩ | ⟨h1, h2⟩ | ⟨h1, h2⟩ | ⟨h1, h2⟩ <;> rw [h1, h2] <;> rfl
  obtain ⟨n1, hn1⟩ : ∃ n1, n1 = n - 1 := ⟨_, rfl⟩
  obtain ⟨N1, hN1⟩ : ∃ N1, N1 = N - 1 := ⟨_, rfl⟩
  obtain ⟨last, hlast⟩ : ∃ last, sets[n1]? = some last := ⟨_, List.getElem?_eq_getElem (by omega)⟩
  obtain ⟨ad, rfl, hcell⟩ := hA n1 (.int .i64 (last : Int)) (by rw [List.map_map, List.getElem?_map, hlast]; rfl)
  have o1 := bc.at1.1
  have o2 := bk.at1.1
  have o3 := bf.at1.1
  have en : IntKind.i64.wrap ((n : Int) - 1) = (n1 : Int) := by rw [IntWalk.i64_in _ (by omega)]; omega
  have eN : IntKind.i64.wrap ((N : Int) - 1) = (N1 : Int) := by rw [IntWalk.i64_in _ (by omega)]; omega
  have l1 : (n1 : Int) < (n : Int) := by omega
  have l2 : (0 : Int) ≤ (n1 : Int) := by omega
  have hgl : sets.getD (n - 1) 0 = last := by rw [← hn1, List.getD_eq_getElem?_getD, hlast]; rfl
  have hN16 : 2 ≤ N ∧ N ≤ 16 := by omega
  have H := Lib.hid (And.intro hc (And.intro hl (And.intro hv (And.intro hn (And.intro hsl (And.intro hsb (And.intro hA (And.intro bc (And.intro bk (And.intro bf (And.intro hnp (And.intro hcb (And.intro hN (And.intro hgl (And.intro hn1 hN1)))))))))))))))
  clear hc hl hv hn hsl hsb hA bc bk bf hnp hcb hN hgl hlast hn1 hN1
  go_enter Tryd.func39, Tryd.ntmps39
  go_wp2_with fail
  go_quiet (fail)
  by_cases hL : last = N1
  · have d1 : ((last : Int) != (N1 : Int)) = false := by simp [hL]
    have HL : Hid (sets.getD (n - 1) 0 = 2 ^ n - 1) := Lib.hid (by rw [H.out.2.2.2.2.2.2.2.2.2.2.2.2.2.1, hL, H.out.2.2.2.2.2.2.2.2.2.2.2.2.2.2.2, H.out.2.2.2.2.2.2.2.2.2.2.2.2.1])
    clear hL
    obtain ⟨w1, hw1⟩ : ∃ w1, w1 = w.drewN nq := ⟨_, rfl⟩
    have hb1 : Below w.heap.size w w1 := by rw [hw1]; exact below_drewN (Below.refl _ _) nq
    have H1 := Lib.hid hb1
    go_wp2_with fail
    rw [← hw1]
    clear hw1 hb1 o1 o2 o3 hcell
    go_loopw [6, 28] (fun mv iv wr => ∃ (i : Nat) (B : Option Addr) (bc : Nat) (vs : List Value), i ≤ n ∧ iv = .int .i64 i ∧ mv = .slice B i bc ∧ wr.ownsRow w.heap.size 22 1 (.slice B i bc) i vs ∧ ORows wr w.heap.size vs (sysC c n (sets.take i)) ∧ Below w.heap.size w wr) (fun _ iv _ => n - (intOf iv).toNat)
    case atStart => exact ⟨0, none, 0, [], Nat.zero_le _, rfl, rfl, World.ownsRow_nil _ _ _ _, ORows.nil _ _, H1.out⟩
    case round =>
      obtain ⟨i, B, bcap, vs, hi, rfl, rfl, hown, hrows, hbl⟩ := hrel
      obtain ⟨wo, rfl⟩ : ∃ wo : World, wo = wr := ⟨_, rfl⟩
      have HR := Lib.hid (And.intro hown (And.intro hrows hbl))
      have hwo := hbl.size
      clear hown hrows hbl
      by_cases hlt : i < n
      · obtain ⟨s, hs⟩ : ∃ s, sets[i]? = some s := ⟨_, List.getElem?_eq_getElem (by have := H.out.2.2.2.2.1; omega)⟩
        have hsN := H.out.2.2.2.2.2.1 s (List.mem_of_getElem? hs)
        obtain ⟨ad', had, hcs⟩ := H.out.2.2.2.2.2.2.1 i (.int .i64 (s : Int)) (by rw [List.map_map, List.getElem?_map, hs]; rfl)
        injection had with had
        subst had
        have hcs' := (HR.out.2.2.cell (lt_of_cell hcs)).trans hcs
        obtain ⟨x, hx⟩ : ∃ x, c[s]? = some x := ⟨_, List.getElem?_eq_getElem (by have := H.out.2.1; omega)⟩
        obtain ⟨ac, rfl, hcx⟩ := H.out.1 s (.int .i64 x) (by rw [List.getElem?_map, hx]; rfl)
        have hcx' := (HR.out.2.2.cell (lt_of_cell hcx)).trans hcx
        have p1 := ((H.out.2.2.2.2.2.2.2.1.below HR.out.2.2 H.out.2.2.2.2.2.2.2.1.lt).at1).1
        have p2 := ((H.out.2.2.2.2.2.2.2.2.1.below HR.out.2.2 H.out.2.2.2.2.2.2.2.2.1.lt).at1).1
        have l3 : (i : Int) < (n : Int) := by omega
        have l4 : (0 : Int) ≤ (s : Int) := by omega
        have l5 : (s : Int) < (N : Int) := by omega
        have hnew : sysC c n (sets.take (i + 1)) = sysC c n (sets.take i) ++ [rowL n s x] := by
          unfold sysC
          rw [List.take_add_one, hs, List.map_append]
          have : c.getD s 0 = x := by rw [List.getD_eq_getElem?_getD, hx]; rfl
          show _ ++ [rowL n s (c.getD s 0)] = _
          rw [this]
        have HN := Lib.hid (And.intro hnew (rowL_length n s x))
        clear hs hcs hx hnew
        go_wp2_with fail
        have HCR := Lib.hid (fun w' => crow_any (some ac) N cap0 n s x w' H.out.2.2.2.2.2.2.2.2.2.2.1 (by omega))
        have hst : ∀ (w3 : World) (g3 c3 : Nat), w3.ownsRow wo.drew.heap.size 3 1 (.slice (some ⟨g3, 0, none⟩) (n + 1) c3) (n + 1) ((rowL n s x).map (Value.int .i64)) → Below wo.drew.heap.size wo.drew w3 →
            w3.ownsRow w.heap.size 22 1 (.slice B i bcap) i vs ∧ ORows w3 w.heap.size (vs ++ [.slice (some ⟨g3, 0, none⟩) (n + 1) c3]) (sysC c n (sets.take (i + 1))) ∧ Below w.heap.size w w3 ∧ w.heap.size ≤ w3.heap.size := by
          intro w3 g3 c3 hown3 hb3
          have hb3' : Below wo.heap.size wo w3 := (below_drewN (Below.refl _ wo) 1).trans hb3
          have hown3' : w3.ownsRow wo.heap.size 3 1 (.slice (some ⟨g3, 0, none⟩) (rowL n s x).length c3) (rowL n s x).length ((rowL n s x).map (Value.int .i64)) := by rw [HN.out.2]; exact hown3
          have hor := (HR.out.2.1.below hb3').snoc (b2 := wo.heap.size) hwo hown3' (HR.out.2.1.lt)
          rw [← HN.out.1, HN.out.2] at hor
          exact ⟨own_below HR.out.1 hb3', hor, HR.out.2.2.trans (hb3'.mono hwo), by have := hb3'.size; omega⟩
        have HST := Lib.hid hst
        have hkp : ∀ w3, Below w.heap.size w w3 → w3.cell? ⟨Bk, 0, none⟩ = some (.slice (some ac) N cap0) ∧ w3.cell? ⟨Bc, 0, none⟩ = some (.slice (some ac) N cap0) ∧ w3.cell? (ac.add s) = some (.int .i64 x) := fun w3 hb3 =>
          ⟨((H.out.2.2.2.2.2.2.2.2.1.below hb3 H.out.2.2.2.2.2.2.2.2.1.lt).at1).1, ((H.out.2.2.2.2.2.2.2.1.below hb3 H.out.2.2.2.2.2.2.2.1.lt).at1).1, (hb3.cell (lt_of_cell hcx)).trans hcx⟩
        have HKP := Lib.hid hkp
        clear hst hkp hcx
        go_region_held3 (fun w' => w'.cell? ⟨Bk, 0, none⟩ = some (.slice (some ac) N cap0) ∧ w'.cell? ⟨Bc, 0, none⟩ = some (.slice (some ac) N cap0) ∧ w'.cell? (ac.add s) = some (.int .i64 x))
          (first | exact HKP.out _ (hq3.2.2.1.trans hbl4) | exact HKP.out _ hq3.2.2.1 | go_keep)
          (first
            | (go_at_call 40; refine (HCR.out _).mono ?_; rintro e w3 ⟨g3, c3, rfl, hown3, hb3⟩; have hq3 := HST.out w3 g3 c3 hown3 hb3)
            | (refine step_app1 (w := w3) sty_sys (by rfl) (.tmp 32) (.tmp 40) (by rfl) w.heap.size B i bcap vs #[.slice (some ⟨g3, 0, none⟩) (n + 1) c3] (by rfl) (by simp [Value.oneCell']) (by rfl) hq3.1 (by rfl) (by omega) hq3.2.2.2 ?_; intro A4 k4 w4 hown4 hg4 hbl4 hk41 hk42))
        have H3 := Lib.hid hq3
        have hor4 := H3.out.2.1.grown H3.out.1 hg4
        have H4 := Lib.hid (And.intro hown4 (And.intro hor4 (H3.out.2.2.1.trans hbl4)))
        clear hown4 hg4 hbl4 hor4 hq3 hown3 hb3
        go_wp2_with fail
        go_roundw
        case rel =>
          (repeat apply Exists.intro)
          refine ⟨⟨i + 1, by omega, ?e1, A4, k4, ?e2, _, H4.out⟩, rfl, rfl, rfl⟩
          case e1 => go_num
          case e2 => rfl
        case measure =>
          show n - ((i : Int) + 1).toNat < n - ((i : Int)).toNat
          omega
      · obtain rfl : i = n := by omega
        have hT : sets.take i = sets := List.take_of_length_le (by rw [H.out.2.2.2.2.1]; exact Nat.le_refl _)
        have hrows' := HR.out.2.1
        rw [hT] at hrows'
        obtain ⟨g, rfl, _, _⟩ := own_some HR.out.1 hn4.1
        obtain ⟨R, C, hM, hg, hRb⟩ := mtx_of HR.out.1 hrows' (by unfold sysC; rw [List.length_map]; exact H.out.2.2.2.2.1) (fun r hr => by
          unfold sysC at hr
          obtain ⟨s, _, rfl⟩ := List.mem_map.1 hr
          exact rowL_length _ _ _)
        have hSM := safe_of hn4.2 (sysC_bd H.out.2.2.2.2.2.2.2.2.2.2.2.1 i sets H.out.2.2.2.2.1)
        have HM := Lib.hid (And.intro hM (And.intro hRb hSM))
        clear hT hrows' hM hRb hSM
        go_wp2_with fail
        refine (solve_any g bcap i R C (entry (sysC c i sets)) w.heap.size wo hn4 HM.out.1 hg HM.out.2.1 HM.out.2.2 hwo).mono ?_
        rintro e w5 (⟨hno, rfl, hb5⟩ | ⟨h, l, D, dc, hso, rfl, hown5, hb5⟩)
        · have HF : Hid (cand c i sets = none ∧ Below w.heap.size w w5) := Lib.hid ⟨by unfold cand; rw [if_pos HL.out, hno], HR.out.2.2.trans hb5⟩
          clear hno hb5
          go_wp2_with fail
          go_ret
          exact ⟨Kept.of_below HF.out.2 _, .inl ⟨HF.out.1, rfl, H.out.2.2.2.2.2.2.2.2.2.1.below HF.out.2 H.out.2.2.2.2.2.2.2.2.2.1.lt⟩⟩
        · have hsf := HM.out.2.2 i h l (Nat.le_refl _) hso
          have hl0 := hsf.1
          have hl1 := hsf.2.1
          have hl2 := hsf.2.2.1
          have hAt5 : At w5 D ((List.range i).map fun i' => .int .i64 (h i' i)) := At.of_own hown5
          have H5 := Lib.hid (And.intro hso (And.intro hAt5 (And.intro (HR.out.2.2.trans hb5) (And.intro hsf hown5))))
          have hw5 := (HR.out.2.2.trans hb5).size
          have dl0 : (l == 0) = false := by rw [beq_eq_false_iff_ne]; exact hl0
          obtain ⟨ma, hma⟩ : ∃ ma, ma = max l (-l) := ⟨_, rfl⟩
          have hma1 : 0 < ma ∧ ma ≤ 100000000 := by omega
          have emn : IntKind.i64.wrap (-l) = -l := IntWalk.i64_in _ (by omega)
          have HMA := Lib.hid hma
          have hql : ∀ k, k < i → (solL h l i)[k]? = some (solQ (h k i) l) := fun k hk => by unfold solL; simp [hk]
          have HQL := Lib.hid (And.intro hql (show (solL h l i).length = i by simp [solL]))
          clear hso hAt5 hb5 hsf hown5 hma hql
          go_wp2_with fail
          go_loopw [11, 52] (fun ov iv wr => ∃ (k : Nat) (D2 : Option Addr) (c2 : Nat), k ≤ i ∧ iv = .int .i64 k ∧ ov = .slice D2 k c2 ∧ wr.ownsRow w5.heap.size 41 2 (.slice D2 k c2) k (fcells ((solL h l i).take k)) ∧ Below w5.heap.size w5 wr) (fun _ iv _ => i - (intOf iv).toNat)
          case atStart => exact ⟨0, none, 0, Nat.zero_le _, rfl, rfl, by simpa [fcells] using World.ownsRow_nil _ _ _ _, Below.refl _ _⟩
          case round =>
            obtain ⟨k, D2, c2, hk, rfl, rfl, hown, hbl⟩ := hrel
            obtain ⟨wp, rfl⟩ : ∃ wp : World, wp = wr := ⟨_, rfl⟩
            have HP := Lib.hid (And.intro hown hbl)
            have hwp := hbl.size
            clear hown hbl
            by_cases hki : k < i
            · obtain ⟨dd, rfl, hcd⟩ := H5.out.2.1 k (.int .i64 (h k i)) (by simp [hki])
              have hcd' := (HP.out.2.cell (lt_of_cell hcd)).trans hcd
              have hxb := H5.out.2.2.2.1.2.2.2 k i hki (Nat.le_refl _)
              have hq := HQL.out.1 k hki
              have HNEW : Hid (∀ q, q = solQ (h k i) l → fcells ((solL h l i).take (k + 1)) = fcells ((solL h l i).take k) ++ [.int .i64 q.num, .int .i64 (q.den : Int)]) := Lib.hid (by
                rintro q rfl
                rw [List.take_add_one, hq]; exact fcells_snoc _ _)
              obtain ⟨x, hx⟩ : ∃ x, x = h k i := ⟨_, rfl⟩
              rw [← hx] at hcd' hxb HNEW
              have l3 : (k : Int) < (i : Int) := by omega
              have enx : IntKind.i64.wrap (-x) = -x := IntWalk.i64_in _ (by omega)
              clear hcd hq hx
              by_cases hneg : l < 0
              · have HX : Hid (solQ x l = Rat.divInt (-x) (-l)) := Lib.hid (by unfold solQ; rw [if_pos hneg, show max l (-l) = -l from by omega])
                have d2 : decide (l < 0) = true := decide_eq_true hneg
                go_wp2_with fail
                refine (gfrac_any (-x) (-l) wp (by omega) (by omega) (by omega) (by omega)).mono ?_
                rintro e w6 ⟨rfl, hb6⟩
                rw [← HX.out]
                have HNW := Lib.hid (HNEW.out _ rfl)
                generalize solQ x l = q at HNW ⊢
                have hown6 := own_below HP.out.1 hb6
                have H6 := Lib.hid (And.intro hown6 (HP.out.2.trans (hb6.mono hwp)))
                have hw6 : w5.heap.size ≤ w6.heap.size := by have := hb6.size; omega
                clear hown6 hb6
                unfold fr
                go_wp2_with (at_builtin; refine app1 sty_frac rfl _ _ rfl w5.heap.size D2 k c2 _ #[.int .i64 q.num, .int .i64 (q.den : Int)] rfl (by simp [Value.oneCell']) rfl H6.out.1 rfl (by omega) hw6 ?_)
                intro A4 k4 w7 hown7 _ hbl7 hk71 hk72
                rw [← HNW.out] at hown7
                have H7 := Lib.hid (And.intro hown7 (H6.out.2.trans hbl7))
                clear hown7 hbl7
                go_wp2_with fail
                go_roundw
                case rel => exact ⟨k + 1, A4, k4, by omega, by go_num, rfl, H7.out.1, H7.out.2⟩
                case measure => simp [intOf]; omega
              · have HX : Hid (solQ x l = Rat.divInt x l) := Lib.hid (by unfold solQ; rw [if_neg hneg, show max l (-l) = l from by omega])
                have d2 : decide (l < 0) = false := decide_eq_false hneg
                go_wp2_with fail
                refine (gfrac_any (x) (l) wp (by omega) (by omega) (by omega) (by omega)).mono ?_
                rintro e w6 ⟨rfl, hb6⟩
                rw [← HX.out]
                have HNW := Lib.hid (HNEW.out _ rfl)
                generalize solQ x l = q at HNW ⊢
                have hown6 := own_below HP.out.1 hb6
                have H6 := Lib.hid (And.intro hown6 (HP.out.2.trans (hb6.mono hwp)))
                have hw6 : w5.heap.size ≤ w6.heap.size := by have := hb6.size; omega
                clear hown6 hb6
                unfold fr
                go_wp2_with (at_builtin; refine app1 sty_frac rfl _ _ rfl w5.heap.size D2 k c2 _ #[.int .i64 q.num, .int .i64 (q.den : Int)] rfl (by simp [Value.oneCell']) rfl H6.out.1 rfl (by omega) hw6 ?_)
                intro A4 k4 w7 hown7 _ hbl7 hk71 hk72
                rw [← HNW.out] at hown7
                have H7 := Lib.hid (And.intro hown7 (H6.out.2.trans hbl7))
                clear hown7 hbl7
                go_wp2_with fail
                go_roundw
                case rel => exact ⟨k + 1, A4, k4, by omega, by go_num, rfl, H7.out.1, H7.out.2⟩
                case measure => simp [intOf]; omega
            · obtain rfl : k = i := by omega
              have hT : (solL h l k).take k = solL h l k := List.take_of_length_le (by rw [HQL.out.2]; exact Nat.le_refl _)
              have hF : Fracs wp D2 (solL h l k) := by
                have := At.of_own HP.out.1
                rwa [hT] at this
              obtain ⟨hc21, hc22⟩ : k ≤ c2 ∧ c2 ≤ 9223372036854775807 := by
                obtain ⟨_, _, he, h1, h2, _⟩ := own_form HP.out.1
                injection he with _ _ he
                subst he
                exact ⟨h1, h2⟩
              obtain ⟨dd2, hdd2⟩ : ∃ dd2, D2 = some dd2 := by
                cases D2 with
                | some d => exact ⟨d, rfl⟩
                | none =>
                  rcases HP.out.1.2 with ⟨_, h0⟩ | ⟨g', _, _, hv', _⟩
                  · omega
                  · injection hv' with hv'; cases hv'
              subst hdd2
              have hprs : Prs wp (some dd2) ((solL h l k).map pr) := by unfold Prs; rw [pcells_fr]; exact hF
              have hbw : Below w.heap.size w wp := H5.out.2.2.1.trans (HP.out.2.mono hw5)
              have p1 := ((H.out.2.2.2.2.2.2.2.1.below hbw H.out.2.2.2.2.2.2.2.1.lt).at1).1
              have hrng : ∀ p ∈ (solL h l k).map pr, (-9223372036854775808 ≤ p.1 ∧ p.1 ≤ 9223372036854775807) ∧ -9223372036854775808 ≤ p.2 ∧ p.2 ≤ 9223372036854775807 := by
                intro p hp
                obtain ⟨q, hq, rfl⟩ := List.mem_map.1 hp
                obtain ⟨i', hi', rfl⟩ := List.mem_map.1 hq
                have hb := H5.out.2.2.2.1.2.2.2 i' k (List.mem_range.1 hi') (Nat.le_refl _)
                have hm : 0 < max l (-l) ∧ max l (-l) ≤ 100000000 := by omega
                have hx : -100000000 ≤ (if l < 0 then -(h i' k) else h i' k) ∧ (if l < 0 then -(h i' k) else h i' k) ≤ 100000000 := by split <;> omega
                have h1 := divInt_bd hm.1 hx.1 hx.2
                have h2 := divInt_den_le (a := if l < 0 then -(h i' k) else h i' k) hm.1
                have h3 := den_pos (solQ (h i' k) l)
                unfold pr
                unfold solQ at h3 ⊢
                exact ⟨⟨by omega, by omega⟩, by simp only; omega, by simp only; omega⟩
              have HFR := Lib.hid (And.intro hF (And.intro hprs (And.intro hbw (And.intro hrng (And.intro HQL.out.2 (H.out.1.below hbw))))))
              clear hT hF hprs hbw hrng
              go_wp2_with fail
              refine (checkcore_any A0 N cap0 (some dd2) k c2 c ((solL h l k).map pr) wp H.out.2.1 (by omega) (by rw [List.length_map]; exact HFR.out.2.2.2.2.1) (by omega) HFR.out.2.2.2.2.2 HFR.out.2.1 HFR.out.2.2.2.1).mono ?_
              rintro e w8 ⟨rfl, hb8⟩
              obtain ⟨ok, hok⟩ : ∃ ok, ok = ccB c ((solL h l k).map pr) := ⟨_, rfl⟩
              rw [← hok]
              have hbw8 : Below w.heap.size w w8 := HFR.out.2.2.1.trans (hb8.mono (HFR.out.2.2.1.size))
              have hbf8 := H.out.2.2.2.2.2.2.2.2.2.1.below hbw8 H.out.2.2.2.2.2.2.2.2.2.1.lt
              obtain ⟨f1, f2⟩ := hbf8.at1
              have H8 := Lib.hid (And.intro hok (And.intro hbw8 (And.intro hbf8 (HFR.out.1.below hb8))))
              clear hok hbw8 hbf8 hb8
              cases ok
              · have HF : Hid (cand c k sets = none) := Lib.hid (by unfold cand; rw [if_pos HL.out, H5.out.1]; simp only; rw [← H8.out.1]; rfl)
                go_wp2_with fail
                go_ret
                exact ⟨Kept.of_below H8.out.2.1 _, .inl ⟨HF.out, rfl, H8.out.2.2.1⟩⟩
              · have HF : Hid (cand c k sets = some (solL h l k)) := Lib.hid (by unfold cand; rw [if_pos HL.out, H5.out.1]; simp only; rw [← H8.out.1]; rfl)
                go_wp2_with fail
                go_ret
                refine ⟨(Kept.of_below H8.out.2.1 _).setCell (.inl (by simp)) _, .inr ⟨solL h l k, some dd2, c2, HF.out, rfl, H8.out.2.2.1.set_ 0 _, HFR.out.2.2.2.2.1, ?_, hc21, hc22⟩⟩
                refine at_far H8.out.2.2.2 (fun ad' had' => ?_) _
                injection had' with had'
                subst had'
                have h1 := (HP.out.1.lt dd2.block rfl).1
                have h2 := H.out.2.2.2.2.2.2.2.2.2.1.lt
                show dd2.block ≠ Bf
                omega
  · have d1 : ((last : Int) != (N1 : Int)) = true := by rw [bne_iff_ne]; omega
    have HF : Hid (cand c n sets = none) := Lib.hid (by
      unfold cand
      rw [if_neg]
      rw [H.out.2.2.2.2.2.2.2.2.2.2.2.2.2.1, ← H.out.2.2.2.2.2.2.2.2.2.2.2.2.1, ← H.out.2.2.2.2.2.2.2.2.2.2.2.2.2.2.2]
      exact hL)
    clear hL
    go_wp2_with fail
    go_ret
    exact ⟨(Kept.refl _ _ _).drewN _, .inl ⟨HF.out, rfl, H.out.2.2.2.2.2.2.2.2.2.1.drewN _⟩⟩

/- Sums over lists of sets; sets that span and sets that stand alone. Plain Lean. -/

def sumL (f : Nat → Rat) : List Nat → Rat
  | [] => 0
  | a :: l => f a + sumL f l
theorem sumL_congr {f g : Nat → Rat} {P : List Nat} (h : ∀ s ∈ P, f s = g s) : sumL f P = sumL g P := by
  induction P with
  | nil => rfl
  | cons a P ih => simp only [sumL]; rw [h a (List.mem_cons_self ..), ih fun s hs => h s (List.mem_cons_of_mem _ hs)]
theorem sumL_zero {f : Nat → Rat} {P : List Nat} (h : ∀ s ∈ P, f s = 0) : sumL f P = 0 := by
  induction P with
  | nil => rfl
  | cons a P ih => simp only [sumL]; rw [h a (List.mem_cons_self ..), ih fun s hs => h s (List.mem_cons_of_mem _ hs)]; grind
theorem sumL_add (f g : Nat → Rat) (P : List Nat) : sumL (fun s => f s + g s) P = sumL f P + sumL g P := by
  induction P with
  | nil => simp only [sumL]; grind
  | cons a P ih => simp only [sumL]; rw [ih]; grind
theorem sumL_mul (a : Rat) (f : Nat → Rat) (P : List Nat) : sumL (fun s => a * f s) P = a * sumL f P := by
  induction P with
  | nil => simp [sumL]
  | cons b P ih => simp only [sumL]; rw [ih]; grind
theorem sumL_perm {f : Nat → Rat} {P Q : List Nat} (h : P.Perm Q) : sumL f P = sumL f Q := by
  induction h with
  | nil => rfl
  | cons a _ ih => simp only [sumL]; rw [ih]
  | swap a b l => simp only [sumL]; grind
  | trans _ _ ih1 ih2 => exact ih1.trans ih2
theorem sumL_erase (f : Nat → Rat) {P : List Nat} {s : Nat} (h : s ∈ P) : sumL f P = f s + sumL f (P.erase s) := by
  rw [sumL_perm (List.perm_cons_erase h)]; rfl
theorem sumL_append (f : Nat → Rat) (P Q : List Nat) : sumL f (P ++ Q) = sumL f P + sumL f Q := by
  induction P with
  | nil => simp only [sumL, List.nil_append]; grind
  | cons a P ih => simp only [sumL, List.cons_append]; rw [ih]; grind
theorem sumL_le {f g : Nat → Rat} {P : List Nat} (h : ∀ s ∈ P, f s ≤ g s) : sumL f P ≤ sumL g P := by
  induction P with
  | nil => simp [sumL]
  | cons a P ih =>
    simp only [sumL]
    have h1 := h a (List.mem_cons_self ..)
    have h2 := ih fun s hs => h s (List.mem_cons_of_mem _ hs)
    grind
theorem sumLQ (g : Nat → Nat → Rat) (P : List Nat) (n : Nat) : sumQ (fun i => sumL (g i) P) n = sumL (fun s => sumQ (fun i => g i s) n) P := by
  induction n with
  | zero => simp only [sumQ]; rw [sumL_zero]; intros; rfl
  | succ n ih => simp only [sumQ]; rw [ih, ← sumL_add]
theorem sumL_get (f : Nat → Rat) (P : List Nat) : sumL f P = sumQ (fun j => f (P.getD j 0)) P.length := by
  have key : ∀ P : List Nat, sumL f P.reverse = sumQ (fun j => f (P.reverse.getD j 0)) P.length := by
    intro P
    induction P with
    | nil => rfl
    | cons a P ih =>
      rw [List.reverse_cons, sumL_append, List.length_cons, sumQ, ih]
      congr 1
      · refine sumQ_congr fun j hj => ?_
        rw [List.getD_eq_getElem?_getD, List.getD_eq_getElem?_getD, List.getElem?_append_left (by simpa using hj)]
      · rw [List.getD_eq_getElem?_getD, List.getElem?_append_right (by simp)]
        simp only [List.length_reverse, Nat.sub_self, sumL, List.getElem?_cons_zero, Option.getD_some]
        grind
  have := key P.reverse
  rwa [List.reverse_reverse, List.length_reverse] at this
/-- The bit of a set, as a fraction. -/
def bq (s i : Nat) : Rat := (bitI s i : Rat)
/-- A set's part of d. -/
def dotS (n : Nat) (d : Nat → Rat) (s : Nat) : Rat := sumQ (fun i => bq s i * d i) n
/-- Each player's sum over the sets. -/
def colS (m : Nat → Rat) (P : List Nat) (i : Nat) : Rat := sumL (fun s => m s * bq s i) P
theorem dot_col (n : Nat) (d m : Nat → Rat) (P : List Nat) : sumL (fun s => m s * dotS n d s) P = sumQ (fun i => d i * colS m P i) n := by
  have e1 : ∀ s, m s * dotS n d s = sumQ (fun i => d i * (m s * bq s i)) n := fun s => by
    unfold dotS
    rw [← sumQ_mul]
    exact sumQ_congr fun i _ => by grind
  simp only [e1]
  rw [← sumLQ]
  refine sumQ_congr fun i _ => ?_
  unfold colS
  rw [← sumL_mul]
theorem dot_add (n : Nat) (d e : Nat → Rat) (t : Rat) (s : Nat) : dotS n (fun i => d i + t * e i) s = dotS n d s + t * dotS n e s := by
  unfold dotS
  rw [← sumQ_mul, ← sumQ_add]
  exact sumQ_congr fun i _ => by grind
theorem nodup_idx {P : List Nat} (hd : P.Nodup) {j : Nat} (hj : j < P.length) : P.idxOf (P.getD j 0) = j := by
  rw [List.getD_eq_getElem?_getD, List.getElem?_eq_getElem hj, Option.getD_some]
  exact hd.idxOf_getElem j hj
/-- More sets than players: some of them cancel. -/
theorem null_sets {n : Nat} {P : List Nat} (hd : P.Nodup) (h : n < P.length) : ∃ m : Nat → Rat, (∃ s ∈ P, m s ≠ 0) ∧ ∀ i, i < n → colS m P i = 0 := by
  obtain ⟨x, ⟨j, hj, hx⟩, hs⟩ := null_exists n P.length h (fun i j => bq (P.getD j 0) i)
  refine ⟨fun s => x (P.idxOf s), ⟨P.getD j 0, ?_, ?_⟩, fun i hi => ?_⟩
  · rw [List.getD_eq_getElem?_getD, List.getElem?_eq_getElem hj]; exact List.getElem_mem hj
  · dsimp only; rw [nodup_idx hd hj]; exact hx
  · unfold colS
    rw [sumL_get, ← hs i hi]
    refine sumQ_congr fun j hj => ?_
    dsimp only
    rw [nodup_idx hd hj]
    grind
/-- Fewer sets than players: some direction is seen by none. -/
theorem null_dir {n : Nat} {P : List Nat} (h : P.length < n) : ∃ d : Nat → Rat, (∃ i, i < n ∧ d i ≠ 0) ∧ ∀ s ∈ P, dotS n d s = 0 := by
  obtain ⟨x, hx, hs⟩ := null_exists P.length n h (fun j i => bq (P.getD j 0) i)
  refine ⟨x, hx, fun s hs' => ?_⟩
  obtain ⟨j, hj, rfl⟩ := List.getElem_of_mem hs'
  have := hs j hj
  rw [List.getD_eq_getElem?_getD, List.getElem?_eq_getElem hj] at this
  exact this
/-- No direction but 0 is seen by none of the sets. -/
def Spn (n : Nat) (P : List Nat) : Prop := ∀ d, (∀ s ∈ P, dotS n d s = 0) → ∀ i, i < n → d i = 0
theorem spn_shrink {n S0 : Nat} (hn : 1 ≤ n) (h0 : ∀ i, i < n → bq S0 i = 1) : ∀ (k : Nat) (P : List Nat), P.length = n + k → P.Pairwise (· < ·) → S0 ∈ P → Spn n P → ∃ Q : List Nat, Q.length = n ∧ Q.Pairwise (· < ·) ∧ S0 ∈ Q ∧ Spn n Q ∧ ∀ s ∈ Q, s ∈ P := by
  intro k
  induction k with
  | zero => intro P hl hp hS hs; exact ⟨P, hl, hp, hS, hs, fun s h => h⟩
  | succ k ih =>
    intro P hl hp hS hs
    have hd : P.Nodup := hp.imp (fun h => Nat.ne_of_lt h)
    obtain ⟨m, ⟨s1, hs1, hm1⟩, hc⟩ := null_sets hd (show n < P.length by omega)
    obtain ⟨s, hsP, hms, hne⟩ : ∃ s, s ∈ P ∧ m s ≠ 0 ∧ s ≠ S0 := by
      apply Decidable.byContradiction
      intro hno
      have hz : ∀ s ∈ P, s ≠ S0 → m s = 0 := fun s h1 h2 => Decidable.byContradiction fun h3 => hno ⟨s, h1, h3, h2⟩
      have hm0 : m S0 ≠ 0 := by
        intro h
        by_cases e : s1 = S0
        · rw [e] at hm1; exact hm1 h
        · exact hm1 (hz s1 hs1 e)
      have h2 := hc 0 (by omega)
      unfold colS at h2
      rw [sumL_erase _ hS, sumL_zero (fun s hs => by rw [hz s (List.mem_of_mem_erase hs) (fun e => by rw [e] at hs; exact hd.not_mem_erase hs)]; grind), h0 0 (by omega)] at h2
      apply hm0
      grind
    have hsp : Spn n (P.erase s) := by
      intro d hdz
      apply hs
      intro s' hs'
      by_cases e : s' = s
      · have h1 := dot_col n d m P
        rw [sumQ_zero (fun i hi => by rw [hc i hi]; grind), sumL_erase _ hsP, sumL_zero (fun s hs => by rw [hdz s hs]; grind)] at h1
        have h2 : m s * dotS n d s = 0 := by grind
        rw [e]
        rcases Rat.mul_eq_zero.1 h2 with h3 | h3
        · exact absurd h3 hms
        · exact h3
      · exact hdz s' ((List.mem_erase_of_ne e).2 hs')
    obtain ⟨Q, h1, h2, h3, h4, h5⟩ := ih (P.erase s) (by rw [List.length_erase_of_mem hsP]; omega) (hp.sublist List.erase_sublist) ((List.mem_erase_of_ne (fun e => hne e.symm)).2 hS) hsp
    exact ⟨Q, h1, h2, h3, h4, fun x hx => List.mem_of_mem_erase (h5 x hx)⟩
theorem spn_length {n : Nat} {P : List Nat} (h : Spn n P) : n ≤ P.length := by
  apply Decidable.byContradiction
  intro h1
  obtain ⟨d, ⟨i, hi, hne⟩, hz⟩ := null_dir (n := n) (P := P) (by omega)
  exact hne (h d hz i hi)

/- A function with a body is entered. -/

/-- K is a function with a body. -/
def EntF (K : FuncId) : Prop := ∀ (args : Array Value) (w : World), (callFunc K args).run Tryd.prog w = .ok (.enter K args) w
theorem entF_of {K : FuncId} {fn : Func} (hf : Tryd.prog.funcs[K]? = some fn) (hn : (fn.name == "runtime.NumGoroutine") = false) (hb : fn.body.isNone = false) : EntF K := by
  intro args w
  have hn' : fn.name ≠ "runtime.NumGoroutine" := by simpa using hn
  have hb' : fn.body ≠ none := by intro h; rw [h] at hb; cases hb
  simp [callFunc, Sem.run_bind, hf, go_sem]
  rw [if_neg hn', if_neg hb']

/- Contract: tight of package games, for whatever function it is called with. -/

/-- All rising lists that go on from a beginning. -/
def cmbs (N : Nat) : Nat → Nat → List Nat → List (List Nat)
  | 0, _, pre => [pre]
  | m + 1, fr, pre => (List.range' fr (N - fr)).flatMap fun s => cmbs N m (s + 1) (pre ++ [s])
/-- .. up to the number i. -/
def cmbTo (N m fr : Nat) (pre : List Nat) (i : Nat) : List (List Nat) := (List.range' fr (i - fr)).flatMap fun s => cmbs N m (s + 1) (pre ++ [s])
theorem cmbs_eq (N m fr : Nat) (pre : List Nat) : cmbs N (m + 1) fr pre = cmbTo N m fr pre N := rfl
theorem cmbTo_succ {N m fr : Nat} {pre : List Nat} {i : Nat} (h : fr ≤ i) : cmbTo N m fr pre (i + 1) = cmbTo N m fr pre i ++ cmbs N m (i + 1) (pre ++ [i]) := by
  unfold cmbTo
  rw [show i + 1 - fr = (i - fr) + 1 from by omega, List.range'_1_concat, List.flatMap_append, show fr + (i - fr) = i from by omega]
  simp
theorem cmbTo_le (N m fr : Nat) (pre : List Nat) (i j : Nat) (h : i ≤ j) : cmbTo N m fr pre i <+: cmbTo N m fr pre j := by
  unfold cmbTo
  have e : List.range' fr (j - fr) = List.range' fr (i - fr) ++ List.range' (fr + (i - fr)) (j - fr - (i - fr)) := by
    rw [List.range'_append_1]
    congr 1
    omega
  rw [e, List.flatMap_append]
  exact List.prefix_append _ _
/-- The sets that are chosen, in order. -/
def cmb (N k : Nat) : List (List Nat) := cmbs N k 1 []

/-- What tight works on. -/
structure TX where
  B : Nat
  A0 : Option Addr
  N : Nat
  cap0 : Nat
  k : Nat
  K : FuncId
  caps : Array Value
  S : List Nat
def TX.gcaps (X : TX) : Array Value := #[.pointer (some ⟨X.B + 3, 0, none⟩), .pointer (some ⟨X.B + 1, 0, none⟩), .pointer (some ⟨X.B + 2, 0, none⟩), .pointer (some ⟨X.B, 0, none⟩), .pointer (some ⟨X.B + 4, 0, none⟩)]
/-- The fixed parts of memory. -/
structure TX.fix (X : TX) (w : World) : Prop where
  size : X.B + 5 ≤ w.heap.size
  bc : Blk w X.B 64 #[.slice X.A0 X.N X.cap0]
  bk : Blk w (X.B + 1) 3 #[.int .i64 X.k]
  bm : Blk w (X.B + 2) 58 #[.func (.func X.K) #[] X.caps]
  bg : Blk w (X.B + 4) 71 #[.func (.func 62) #[] X.gcaps]
/-- The sets so far. -/
def TX.pre (X : TX) (pre : List Nat) (w : World) : Prop := ∃ A k, Blk w (X.B + 3) 22 #[.slice A pre.length k] ∧ w.ownsRow (X.B + 5) 3 1 (.slice A pre.length k) pre.length (nats pre) ∧ pre.length ≤ k ∧ k ≤ 9223372036854775807

theorem TX.fix.kept {X : TX} {w w' : World} (h : X.fix w) (hS : ∀ x ∈ X.S, x < X.B) (hk : Kept (X.B + 5) ((X.B + 3) :: X.S) w w') : X.fix w' := by
  have k : ∀ (g : Nat) (t : TypeId) (cs : Array Value), Blk w g t cs → X.B ≤ g → g < X.B + 5 → g ≠ X.B + 3 → Blk w' g t cs := by
    intro g t cs hb h1 h2 h3
    refine hb.kept hk h2 ?_
    intro hm
    rcases List.mem_cons.1 hm with e | e
    · exact h3 e
    · have := hS g e; omega
  exact ⟨Nat.le_trans h.size hk.size, k _ _ _ h.bc (by omega) (by omega) (by omega), k _ _ _ h.bk (by omega) (by omega) (by omega), k _ _ _ h.bm (by omega) (by omega) (by omega), k _ _ _ h.bg (by omega) (by omega) (by omega)⟩

/-- What a call of the function must leave. -/
def MorePost (Inv : Nat → World → Prop) (Done : World → Prop) (S : List Nat) (t : Nat) (w : World) (e : Ending) (w' : World) : Prop :=
  Kept w.heap.size S w w' ∧ ((e = .returned (.bool true) ∧ Inv (t + 1) w') ∨ (e = .returned (.bool false) ∧ Done w'))
/-- What the inner function leaves. -/
def GrowPost (X : TX) (Inv : Nat → World → Prop) (Done : World → Prop) (pre : List Nat) (t len : Nat) (w : World) (e : Ending) (w' : World) : Prop :=
  Kept (X.B + 5) ((X.B + 3) :: X.S) w w' ∧ ((e = .returned (.bool true) ∧ Inv (t + len) w' ∧ X.pre pre w') ∨ (e = .returned (.bool false) ∧ Done w'))

set_option maxRecDepth 100000 in
set_option maxHeartbeats 800000 in
theorem tight1_any (X : TX) (Inv : Nat → World → Prop) (Done : World → Prop) (hS : ∀ x ∈ X.S, x < X.B) (hK : EntF X.K) (hN : X.N ≤ 16) (hk : 1 ≤ X.k ∧ X.k ≤ 4)
    (hkeep : ∀ t w1 w2, Inv t w1 → Below X.B w1 w2 → Inv t w2) (L : List (List Nat))
    (hcall : ∀ t w' A c sets, L[t]? = some sets → Inv t w' → Ints w' A (sets.map Int.ofNat) → X.k ≤ c → c ≤ 9223372036854775807 → X.B ≤ w'.heap.size → Calls Tryd.prog X.K (#[.slice A X.k c] ++ X.caps) w' (MorePost Inv Done X.S t w'))
    (m : Nat) : ∀ (fr : Nat) (pre : List Nat) (t : Nat) (w : World), pre.length + m = X.k → 1 ≤ fr → fr ≤ 16 → X.fix w → X.pre pre w → Inv t w → (∀ j s, (cmbs X.N m fr pre)[j]? = some s → L[t + j]? = some s) →
    Calls Tryd.prog 62 (#[.int .i64 fr] ++ X.gcaps) w (GrowPost X Inv Done pre t (cmbs X.N m fr pre).length w) := by
  unfold EntF at hK
  have HC := Lib.hid (And.intro hS (And.intro hkeep hcall))
  clear hS hkeep hcall
  induction m with
  | zero =>
    intro fr pre t w hpl hf1 hf16 hf hp hI hL
    obtain ⟨A, kc, hbo, hown, hk1, hk2⟩ := hp
    have hpk : pre.length = X.k := by omega
    rw [hpk] at hbo hown hk1
    have hl0 := hL 0 pre rfl
    have hInts : Ints w A (pre.map Int.ofNat) := by
      have := At.of_own hown
      unfold Ints
      rw [show (pre.map Int.ofNat).map (Value.int .i64) = nats pre from by simp [nats]]
      exact this
    have o1 := hbo.at1.1
    have o2 := hf.bk.at1.1
    have o3 := hf.bm.at1.1
    have hcl := HC.out.2.2 t w A kc pre hl0 hI hInts hk1 hk2 (by have := hf.size; omega)
    have H := Lib.hid (And.intro hcl (And.intro hf (And.intro hbo (And.intro hown (And.intro hk1 (And.intro hk2 hpk))))))
    clear hcl hf hbo hown hk1 hk2 hpk hl0 hInts hI hL hpl
    have e1 : ((X.k : Int) == (X.k : Int)) = true := by simp
    unfold TX.gcaps
    go_enter Tryd.func62, Tryd.ntmps62
    go_wp2_with fail
    refine H.out.1.mono ?_
    rintro e w' ⟨hkp, hres⟩
    obtain ⟨_, hf, hbo, hown, hk1, hk2, hpk⟩ := H.out
    have hkw : Kept (X.B + 5) ((X.B + 3) :: X.S) w w' := hkp.mono hf.size (fun x hx => .inl (List.mem_cons_of_mem _ hx))
    rcases hres with ⟨rfl, hI⟩ | ⟨rfl, hD⟩
    · have hpre : X.pre pre w' := by
        refine ⟨A, kc, ?_, ?_, by rw [hpk]; exact hk1, hk2⟩
        · rw [hpk]
          exact hbo.kept hkp hbo.lt (fun hm => by have := HC.out.1 _ hm; omega)
        · rw [hpk]
          exact own_kept hown fun g h1 h2 => hkp.block g h2 (fun hm => by have := HC.out.1 _ hm; omega)
      have HF := Lib.hid (And.intro hkw (And.intro hI hpre))
      clear hkp hI hpre hkw hf hbo hown
      go_wp2_with fail
      go_ret
      exact ⟨HF.out.1, .inl ⟨rfl, HF.out.2.1, HF.out.2.2⟩⟩
    · have HF := Lib.hid (And.intro hkw hD)
      clear hkp hD hkw hf hbo hown
      go_wp2_with fail
      go_ret
      exact ⟨HF.out.1, .inr ⟨rfl, HF.out.2⟩⟩
  | succ m ih =>
    intro fr pre t w hpl hf1 hf16 hf hp hI hL
    have IH := Lib.hid ih
    clear ih
    obtain ⟨A, kc, hbo, hown, hk1, hk2⟩ := hp
    have o1 := hbo.at1.1
    have o2 := hf.bk.at1.1
    have hne : ((pre.length : Int) == (X.k : Int)) = false := by rw [beq_eq_false_iff_ne]; omega
    have H := Lib.hid (And.intro hf (And.intro hbo (And.intro hown (And.intro hpl (And.intro hI hL)))))
    clear hf hbo hown hpl hI hL
    unfold TX.gcaps
    go_enter Tryd.func62, Tryd.ntmps62
    go_wp2_with fail
    go_loopw [8] (fun sv wr => ∃ s : Nat, fr ≤ s ∧ (s ≤ X.N ∨ s = fr) ∧ sv = .int .i64 s ∧ Kept (X.B + 5) ((X.B + 3) :: X.S) w wr ∧ Inv (t + (cmbTo X.N m fr pre s).length) wr ∧ X.pre pre wr) (fun sv _ => 17 - (intOf sv).toNat)
    case atStart =>
      exact ⟨fr, Nat.le_refl _, .inr rfl, rfl, Kept.refl _ _ _, by simpa [cmbTo] using H.out.2.2.2.2.1, ⟨A, kc, H.out.2.1, H.out.2.2.1, hk1, hk2⟩⟩
    case round =>
      obtain ⟨s, hfs, hsN, rfl, hkw, hI, hp⟩ := hrel
      obtain ⟨wo, rfl⟩ : ∃ wo : World, wo = wr := ⟨_, rfl⟩
      have hf2 := H.out.1.kept HC.out.1 hkw
      obtain ⟨A2, k2, hbo2, hown2, hk21, hk22⟩ := hp
      have q0 := hf2.bc.at1.1
      have q1 := hbo2.at1.1
      have q2 := hbo2.at1.2
      have HR := Lib.hid (And.intro hkw (And.intro hI (And.intro hbo2 (And.intro hown2 hf2))))
      have hbase := hf2.size
      clear hkw hI hbo2 hown2 hf2
      by_cases hlt : s < X.N
      · have l1 : (s : Int) < (X.N : Int) := by omega
        have hpl4 : pre.length ≤ 4 := by have := H.out.2.2.2.1; omega
        go_wp2_with (at_builtin; refine app1 sty_int rfl _ _ rfl (X.B + 5) A2 pre.length k2 (nats pre) #[.int .i64 (s : Int)] rfl (by simp [Value.oneCell']) rfl HR.out.2.2.2.1 rfl (by omega) hbase ?_)
        intro A3 k3 w3 hown3 _ hbl3 hk31 hk32
        have hbo3 : Blk w3 (X.B + 3) 22 #[.slice A2 pre.length k2] := HR.out.2.2.1.below hbl3 (by omega)
        obtain ⟨s1, s2⟩ := hbo3.at1
        have hbo4 := hbo3.set_ 0 (.slice A3 (pre.length + 1) k3)
        have K4 : Kept (X.B + 5) ((X.B + 3) :: X.S) wo (w3.setCell ⟨X.B + 3, 0, none⟩ (.slice A3 (pre.length + 1) k3)) := (Kept.of_below hbl3 _).setCell (.inl (by simp)) _
        have hB4 : Below X.B wo (w3.setCell ⟨X.B + 3, 0, none⟩ (.slice A3 (pre.length + 1) k3)) := (hbl3.mono (by omega)).setCell (by show X.B ≤ X.B + 3; omega) _
        have hf4 := HR.out.2.2.2.2.kept HC.out.1 K4
        obtain ⟨g1, g2⟩ := hf4.bg.at1
        have hpre : X.pre (pre ++ [s]) (w3.setCell ⟨X.B + 3, 0, none⟩ (.slice A3 (pre.length + 1) k3)) := by
          refine ⟨A3, k3, ?_, ?_, by simp; omega, hk32⟩
          · simpa using hbo4
          · rw [nats_snoc, List.length_append]
            exact own_setCell hown3 (by show X.B + 3 < X.B + 5; omega) _
        have hI4 := HC.out.2.1 _ _ _ HR.out.2.1 hB4
        have H4 := Lib.hid (And.intro hf4 (And.intro (HR.out.1.trans K4) (And.intro hI4 hpre)))
        unfold TX.gcaps at g1
        clear hown3 hbl3 hbo3 hbo4 K4 hB4 hf4 hpre hI4
        go_wp2_with fail
        refine (IH.out (s + 1) (pre ++ [s]) (t + (cmbTo X.N m fr pre s).length) _ (by simp; have := H.out.2.2.2.1; omega) (by omega) (by omega) H4.out.1 H4.out.2.2.2 H4.out.2.2.1 ?hL).mono ?_
        case hL =>
          intro j st hj
          rw [Nat.add_assoc]
          refine H.out.2.2.2.2.2 _ st ?_
          obtain ⟨T, hT⟩ := cmbTo_le X.N m fr pre (s + 1) X.N (by omega)
          rw [cmbs_eq, ← hT, cmbTo_succ hfs, List.append_assoc, List.getElem?_append_right (by omega), Nat.add_sub_cancel_left, List.getElem?_append_left (List.getElem?_eq_some_iff.1 hj).1]
          exact hj
        rintro e w5 ⟨hk5, hres⟩
        rcases hres with ⟨rfl, hI5, hp5⟩ | ⟨rfl, hD5⟩
        · obtain ⟨A6, k6, hbo6, hown6, hk61, hk62⟩ := hp5
          rw [List.length_append, List.length_singleton] at hbo6 hown6 hk61
          rw [nats_snoc] at hown6
          obtain ⟨t1, t2⟩ := hbo6.at1
          have H6 := Lib.hid (And.intro (H4.out.2.1.trans hk5) (And.intro hI5 (And.intro (own_pop hown6) hbo6)))
          clear hk5 hI5 hbo6 hown6
          go_wp2_with fail
          go_roundw
          case rel =>
            refine ⟨s + 1, by omega, .inl (by omega), by go_num, H6.out.1.setCell (.inl (by simp)) _, ?_, ⟨A6, k6, ?_, ?_, by omega, hk62⟩⟩
            · rw [cmbTo_succ hfs, List.length_append, ← Nat.add_assoc]
              exact HC.out.2.1 _ _ _ H6.out.2.1 ((Below.refl _ _).setCell (by show X.B ≤ X.B + 3; omega) _)
            · exact H6.out.2.2.2.set_ 0 _
            · exact own_setCell H6.out.2.2.1 (by show X.B + 3 < X.B + 5; omega) _
          case measure => simp [intOf]; omega
        · have H6 := Lib.hid (And.intro (H4.out.2.1.trans hk5) hD5)
          clear hk5 hD5
          go_wp2_with fail
          go_ret
          exact ⟨H6.out.1, .inr ⟨rfl, H6.out.2⟩⟩
      · have hT : cmbTo X.N m fr pre s = cmbs X.N (m + 1) fr pre := by
          rw [cmbs_eq]
          unfold cmbTo
          congr 2
          omega
        have HF : Hid (Kept (X.B + 5) ((X.B + 3) :: X.S) w wo ∧ Inv (t + (cmbs X.N (m + 1) fr pre).length) wo ∧ X.pre pre wo) := Lib.hid ⟨HR.out.1, by rw [← hT]; exact HR.out.2.1, ⟨A2, k2, HR.out.2.2.1, HR.out.2.2.2.1, hk21, hk22⟩⟩
        clear hT
        go_wp2_with fail
        go_ret
        exact ⟨HF.out.1, .inl ⟨rfl, HF.out.2.1, HF.out.2.2⟩⟩

/-- What tight leaves. -/
def TightPost (Inv : Nat → World → Prop) (Done : World → Prop) (S : List Nat) (len : Nat) (w : World) (e : Ending) (w' : World) : Prop :=
  e = .returned (.tuple #[]) ∧ Kept w.heap.size S w w' ∧ (Inv len w' ∨ Done w')

set_option maxRecDepth 100000 in
set_option maxHeartbeats 800000 in
theorem tight_any (A0 : Option Addr) (N cap0 k : Nat) (K : FuncId) (caps : Array Value) (S : List Nat) (w : World) (Inv : Nat → World → Prop) (Done : World → Prop) (hS : ∀ x ∈ S, x < w.heap.size) (hK : EntF K) (hN : N ≤ 16) (hk : 1 ≤ k ∧ k ≤ 4)
    (hst : Inv 0 w) (hkeep : ∀ t w1 w2, Inv t w1 → Below w.heap.size w1 w2 → Inv t w2)
    (hcall : ∀ t w' A c sets, (cmb N k)[t]? = some sets → Inv t w' → Ints w' A (sets.map Int.ofNat) → k ≤ c → c ≤ 9223372036854775807 → w.heap.size ≤ w'.heap.size → Calls Tryd.prog K (#[.slice A k c] ++ caps) w' (MorePost Inv Done S t w')) :
    Calls Tryd.prog 38 #[.slice A0 N cap0, .int .i64 k, .func (.func K) #[] caps] w (TightPost Inv Done S (cmb N k).length w) := by
  have H := Lib.hid (And.intro hS (And.intro hst (And.intro hkeep hcall)))
  clear hS hst hkeep hcall
  obtain ⟨X, hX⟩ : ∃ X : TX, X = { B := w.heap.size, A0 := A0, N := N, cap0 := cap0, k := k, K := K, caps := caps, S := S } := ⟨_, rfl⟩
  have HX := Lib.hid hX
  clear hX
  go_enter Tryd.func38, Tryd.ntmps38
  go_wp2_with fail
  have hX := HX.out
  subst hX
  obtain ⟨hS, hst, hkeep, hcall⟩ := H.out
  have K5 : ∀ o1 o2 o3 o4 o5, Below w.heap.size w (((((w.alloc o1).alloc o2).alloc o3).alloc o4).alloc o5) := fun o1 o2 o3 o4 o5 =>
    (((((Below.refl _ _).alloc (by go_size) _).alloc (by go_size) _).alloc (by go_size) _).alloc (by go_size) _).alloc (by go_size) _
  have h1 := fun w' => tight1_any { B := w.heap.size, A0 := A0, N := N, cap0 := cap0, k := k, K := K, caps := caps, S := S } Inv Done hS hK hN hk hkeep (cmb N k) (fun t w' A c sets h1 h2 h3 h4 h5 h6 => hcall t w' A c sets h1 h2 h3 h4 h5 h6) k 1 [] 0 w' (by simp) (by omega) (by omega)
  have ha : (#[Value.int .i64 ((1 : Nat) : Int)] ++ TX.gcaps { B := w.heap.size, A0 := A0, N := N, cap0 := cap0, k := k, K := K, caps := caps, S := S }) = #[.int .i64 1, .pointer (some ⟨w.heap.size + 3, 0, none⟩), .pointer (some ⟨w.heap.size + 1, 0, none⟩), .pointer (some ⟨w.heap.size + 2, 0, none⟩), .pointer (some ⟨w.heap.size, 0, none⟩), .pointer (some ⟨w.heap.size + 4, 0, none⟩)] := by simp [TX.gcaps]
  rw [ha] at h1
  simp only [Nat.add_assoc, Nat.reduceAdd]
  refine (h1 _ ?fix ?pre (hkeep 0 _ _ hst (K5 _ _ _ _ _)) (fun j s hj => by rw [Nat.zero_add]; exact hj)).mono ?_
  case fix =>
    exact {
      size := by simp
      bc := ((((Blk.new _ _ _ rfl).alloc _).alloc _).alloc _).alloc _
      bk := (((Blk.new _ _ _ (by simp)).alloc _).alloc _).alloc _
      bm := ((Blk.new _ _ _ (by simp)).alloc _).alloc _
      bg := Blk.new _ _ _ (by simp) }
  case pre => exact ⟨none, 0, (Blk.new _ _ _ (by simp)).alloc _, World.ownsRow_nil _ _ _ _, by simp, by omega⟩
  rintro e w' ⟨hk', hres⟩
  have hkw : Kept w.heap.size S w w' := (Kept.of_below (K5 _ _ _ _ _) _).trans (hk'.mono (by show w.heap.size ≤ w.heap.size + 5; omega) (fun x hx => by
    rcases List.mem_cons.1 hx with e | e
    · exact .inr (by rw [e]; show w.heap.size ≤ w.heap.size + 3; omega)
    · exact .inl e))
  rcases hres with ⟨rfl, hI, _⟩ | ⟨rfl, hD⟩
  · have HF := Lib.hid (And.intro hkw hI)
    clear hkw hI hk' K5 hS hst hkeep hcall
    go_wp2
    go_end0
    exact ⟨rfl, HF.out.1, .inl (by have := HF.out.2; rwa [Nat.zero_add] at this)⟩
  · have HF := Lib.hid (And.intro hkw hD)
    clear hkw hD hk' K5 hS hst hkeep hcall
    go_wp2
    go_end0
    exact ⟨rfl, HF.out.1, .inr HF.out.2⟩
end Go.Proofs.YtifmekijdepokaaDoor
