/- Laws and contracts that the proof of SplitBest uses, part 4. -/
import Derived.Test.YtkljambjdiblkaaSplitBestM3
import Derived.Test.YtkljambjdiblkaaSplitBestM2
import Derived.Test.YtkljambjdiblkaaSplitBestM1
import Derived.Deep.RegionHeld3
namespace Go.Proofs.Ytkljambjdiblkaa
open Go.RowKit

/- The walk of SplitBetter: Better of package split against the reference. -/

theorem fewV_id {V : List (List Int)} (h : V.length ≤ 6) (h2 : ∀ r ∈ V, r.length ≤ 9) : fewV V = V := by
  unfold fewV
  rw [List.take_of_length_le h]
  conv => rhs; rw [← List.map_id V]
  apply List.map_congr_left
  intro r hr
  exact List.take_of_length_le (h2 r hr)
theorem rowV_mem {V : List (List Int)} (h : 0 < V.length) : rowV V 0 ∈ V := by
  rw [rowV_get (List.getElem?_eq_getElem h)]; exact List.getElem_mem _
theorem fewV_ok {V : List (List Int)} (h : valV V = true) : fewV V = V := by
  obtain ⟨h1, h2, h3⟩ := valV_iff.1 h
  exact fewV_id (by omega) fun r hr => by have := (h3 r hr).1; omega
/-- Few keeps what is valid, and what is not. -/
theorem valV_few (V : List (List Int)) : valV (fewV V) = valV V := by
  cases h : valV V
  · cases h' : valV (fewV V)
    · rfl
    · exfalso
      obtain ⟨h1, h2, h3⟩ := valV_iff.1 h'
      rw [fewV_length] at h1
      have hl : V.length ≤ 4 := by omega
      have e : fewV V = V.map (·.take 9) := by unfold fewV; rw [List.take_of_length_le (by omega)]
      have e0 : rowV (fewV V) 0 = (rowV V 0).take 9 := by
        rw [e]
        have hg : V[0]? = some (V[0]'(by omega)) := List.getElem?_eq_getElem (by omega)
        rw [rowV_get hg, rowV_get (r := (V[0]'(by omega)).take 9) (by rw [List.getElem?_map, hg]; rfl)]
      have hr : ∀ r ∈ V, r.length ≤ 9 := by
        intro r hr
        have := (h3 (r.take 9) (by rw [e]; exact List.mem_map.2 ⟨r, hr, rfl⟩)).1
        rw [List.length_take] at this
        omega
      rw [fewV_id (by omega) hr, h] at h'
      cases h'
  · rw [fewV_ok h]; exact h
theorem divV_few {V : List (List Int)} (d : List Int) (h : valV V = true) : divV V (d.take 9) = divV V d := by
  obtain ⟨h1, h2, h3⟩ := valV_iff.1 h
  by_cases hd : d.length ≤ 9
  · rw [List.take_of_length_le hd]
  · unfold divV
    rw [decide_eq_false (p := d.length = (rowV V 0).length) (by omega), decide_eq_false (p := (d.take 9).length = (rowV V 0).length) (by rw [List.length_take]; omega)]
    rfl
theorem divided_few (V : List (List Int)) (d : List Int) : (valV (fewV V) && divV (fewV V) (d.take 9)) = (valV V && divV V d) := by
  rw [valV_few]
  cases h : valV V
  · rfl
  · rw [fewV_ok h, divV_few d h]

set_option maxRecDepth 100000 in
set_option maxHeartbeats 1600000 in
theorem law_better (A : Option Addr) (n cap : Nat) (V : List (List Int)) (D : Option Addr) (nd capd : Nat) (d : List Int) (w : World)
    (hl : V.length = n) (hc : n ≤ cap) (hm : cap ≤ 9223372036854775807) (hV : Mat w A V) (_hx : ∀ r ∈ V, ∀ x ∈ r, -9223372036854775808 ≤ x ∧ x ≤ 9223372036854775807)
    (hld : d.length = nd) (hcd : nd ≤ capd) (hmd : capd ≤ 9223372036854775807) (hD : Ints w D d) (_hxd : ∀ x ∈ d, -9223372036854775808 ≤ x ∧ x ≤ 9223372036854775807) :
    Calls Try.prog 3 #[.slice A n cap, .slice D nd capd] w fun e w' => e = .returned (.bool true) ∧ Below w.heap.size w w' := by
  have H := Lib.hid (And.intro hl (And.intro hV (And.intro hld hD)))
  clear hl hV hld hD _hx _hxd
  go_enter Try.func3, Try.ntmps3
  go_wp2_with fail
  refine (few_any A n cap V _ H.out.1 (by omega) H.out.2.1).mono ?_
  rintro e w1 ⟨A1, q, c1, rfl, hq, hq6, hqc, hc1, hM, hb⟩
  have H1 := Lib.hid (And.intro hq (And.intro hM hb))
  clear hq hM hb
  go_wp2_with fail
  refine (list_any D nd capd d _ H.out.2.2.1 hcd hmd (H.out.2.2.2.below H1.out.2.2)).mono ?_
  rintro e w2 ⟨A2, c2, rfl, hown2, hb2⟩
  have hI2 : Ints w2 A2 (d.take 9) := At.of_own hown2
  obtain ⟨k2, hk2⟩ : ∃ k2, k2 = min nd 9 := ⟨_, rfl⟩
  have hk29 : k2 ≤ 9 := by omega
  have hlk : (d.take 9).length = k2 := by rw [List.length_take, H.out.2.2.1, hk2]; omega
  rw [← hk2]
  have H2 := Lib.hid (And.intro hI2 (And.intro (H1.out.2.1.below hb2) (And.intro (H1.out.2.2.trans (hb2.mono H1.out.2.2.size)) hlk)))
  clear hown2 hI2 hb2 hk2 hlk
  go_wp2_with fail
  refine (sbetter_any A1 A2 q c1 k2 c2 (fewV V) (d.take 9) w2 H1.out.1.symm (by omega) H2.out.2.1 H2.out.2.2.2 (by omega) H2.out.1).mono ?_
  rintro e w3 (⟨hbad, rfl, hb3⟩ | ⟨hok, hres⟩)
  · rw [divided_few] at hbad
    have H3 := Lib.hid (And.intro hbad (H2.out.2.2.1.trans (hb3.mono H2.out.2.2.1.size)))
    clear hbad hb3
    go_wp2_with fail
    refine (divided_any A D n cap nd capd V d w3 H.out.1 (by omega) (H.out.2.1.below H3.out.2) H.out.2.2.1 (by omega) (H.out.2.2.2.below H3.out.2)).mono ?_
    rintro e w4 ⟨rfl, rfl⟩
    rw [H3.out.1]
    go_wp2_with fail
    refine (awake_any w3).mono ?_
    rintro e w5 ⟨rfl, hb5⟩
    have H5 := Lib.hid (H3.out.2.trans (hb5.mono H3.out.2.size))
    clear hb5
    go_wp2_with fail
    go_ret
    exact ⟨rfl, H5.out⟩
  · rw [divided_few] at hok
    have hv : valV V = true := by simp only [Bool.and_eq_true] at hok; exact hok.1
    have hdv : divV V d = true := by simp only [Bool.and_eq_true] at hok; exact hok.2
    obtain ⟨v1, v2, v3⟩ := valV_iff.1 hv
    obtain ⟨m, hm⟩ : ∃ m, m = (rowV V 0).length := ⟨_, rfl⟩
    have hdl : d.length = m := by
      unfold divV at hdv
      simp only [Bool.and_eq_true, decide_eq_true_eq] at hdv
      rw [hm]; exact hdv.1
    have hdt : d.take 9 = d := List.take_of_length_le (by omega)
    rw [fewV_ok hv, hdt, ← hm] at hres
    have hndm : nd = m := by rw [← H.out.2.2.1, hdl]
    subst hndm
    obtain ⟨o, ho⟩ : ∃ o, o = (divs V.length nd).find? (better V d) := ⟨_, rfl⟩
    rw [← ho] at hres
    have hn4 : 1 ≤ n ∧ n ≤ 4 := by rw [← H.out.1]; exact v1
    have hm7 : 1 ≤ nd ∧ nd ≤ 7 := by rw [hm]; exact v2
    have ho2 : o = (divs n nd).find? (better V d) := by rw [ho, H.out.1]
    have HV := Lib.hid (And.intro hok (And.intro hm (And.intro (valV_rows hv hm) ho2)))
    clear hok hv hdv v1 v2 v3 hm hdl hdt ho ho2
    rcases hres with ⟨rfl, rfl, hb3⟩ | ⟨a, A3, c3, rfl, rfl, ha7, hI3, hb3⟩
    · have H3 := Lib.hid (H2.out.2.2.1.trans (hb3.mono H2.out.2.2.1.size))
      clear hb3
      go_wp2_with fail
      refine (divided_any A D n cap nd capd V d w3 H.out.1 (by omega) (H.out.2.1.below H3.out) H.out.2.2.1 (by omega) (H.out.2.2.2.below H3.out)).mono ?_
      rintro e w4 ⟨rfl, rfl⟩
      rw [HV.out.1]
      go_wp2_with fail
      refine (r1better_any A D n cap capd nd V d w3 H.out.1 hn4 HV.out.2.1 hm7 H.out.2.2.1 (by rw [← H.out.1]; exact HV.out.2.2.1) (H.out.2.1.below H3.out) (H.out.2.2.2.below H3.out)).mono ?_
      rw [← HV.out.2.2.2]
      rintro e w5 (⟨_, rfl, hb5⟩ | ⟨a', _, _, h, _⟩)
      · have H5 := Lib.hid (H3.out.trans (hb5.mono H3.out.size))
        clear hb5
        go_wp2_with fail
        refine (equal_any none none 0 0 0 0 [] [] w5 rfl rfl (by omega) Ints.nil Ints.nil).mono ?_
        rintro e w6 ⟨rfl, k6, rfl⟩
        have e1 : eqB ([] : List Int) [] = true := by decide
        rw [e1]
        go_wp2_with fail
        refine (awake_any _).mono ?_
        rintro e w7 ⟨rfl, hb7⟩
        have H7 := Lib.hid ((below_drewN H5.out k6).trans (hb7.mono (H5.out.size)))
        clear hb7
        go_wp2_with fail
        go_ret
        exact ⟨rfl, H7.out⟩
      · cases h
    · have H3 := Lib.hid (And.intro hI3 (H2.out.2.2.1.trans (hb3.mono H2.out.2.2.1.size)))
      clear hb3 hI3
      obtain ⟨ka, hka⟩ : ∃ ka, ka = a.length := ⟨_, rfl⟩
      rw [← hka] at ha7 ⊢
      have HKA := Lib.hid hka
      clear hka
      go_wp2_with fail
      refine (divided_any A D n cap nd capd V d w3 H.out.1 (by omega) (H.out.2.1.below H3.out.2) H.out.2.2.1 (by omega) (H.out.2.2.2.below H3.out.2)).mono ?_
      rintro e w4 ⟨rfl, rfl⟩
      rw [HV.out.1]
      go_wp2_with fail
      refine (r1better_any A D n cap capd nd V d w3 H.out.1 hn4 HV.out.2.1 hm7 H.out.2.2.1 (by rw [← H.out.1]; exact HV.out.2.2.1) (H.out.2.1.below H3.out.2) (H.out.2.2.2.below H3.out.2)).mono ?_
      rw [← HV.out.2.2.2]
      rintro e w5 (⟨h, _⟩ | ⟨a', A5, c5, h, rfl, ha5, hI5, hb5⟩)
      · cases h
      · injection h with h
        subst h
        rw [← HKA.out]
        have H5 := Lib.hid (And.intro (H3.out.1.below hb5) (And.intro hI5 (H3.out.2.trans (hb5.mono H3.out.2.size))))
        clear hb5 hI5 ha5
        go_wp2_with fail
        refine (equal_any A3 A5 ka ka c3 c5 a a w5 HKA.out.symm HKA.out.symm (by omega) H5.out.1 H5.out.2.1).mono ?_
        rintro e w6 ⟨rfl, k6, rfl⟩
        have e1 : eqB a a = true := by unfold eqB; exact decide_eq_true rfl
        rw [e1]
        go_wp2_with fail
        refine (awake_any _).mono ?_
        rintro e w7 ⟨rfl, hb7⟩
        have H7 := Lib.hid ((below_drewN H5.out.2.2 k6).trans (hb7.mono (H5.out.2.2.size)))
        clear hb7
        go_wp2_with fail
        go_ret
        exact ⟨rfl, H7.out⟩

/- Copies of values and of a division, at once. -/

/-- Values and a division that are valid. -/
theorem good_few {V : List (List Int)} {d : List Int} (h : (valV V && divV V d) = true) : valV V = true ∧ divV V d = true ∧ fewV V = V ∧ d.take 9 = d := by
  simp only [Bool.and_eq_true] at h
  obtain ⟨v1, v2, v3⟩ := valV_iff.1 h.1
  refine ⟨h.1, h.2, fewV_ok h.1, List.take_of_length_le ?_⟩
  have hd := h.2
  unfold divV at hd
  simp only [Bool.and_eq_true, decide_eq_true_eq] at hd
  omega
/-- Few, read plainly. -/
theorem few2_any (A : Option Addr) (n cap : Nat) (V : List (List Int)) (w : World) (hl : V.length = n) (hn : n ≤ 9223372036854775807) (hV : Mat w A V) :
    Calls Try.prog 19 #[.slice A n cap] w fun e w' => ∃ A' q c, e = .returned (.slice A' q c) ∧ (fewV V).length = q ∧ q ≤ 6 ∧ q ≤ c ∧ c ≤ 9223372036854775807 ∧ Mat w' A' (fewV V) ∧ Below w.heap.size w w' :=
  (few_any A n cap V w hl hn hV).mono fun _ _ ⟨A', q, c, h1, h2, h3⟩ => ⟨A', q, c, h1, h2.symm, h3⟩
theorem awake2_any (w0 w : World) (h : Below w0.heap.size w0 w) : Calls Try.prog 22 #[] w fun e w' => e = .returned (.bool true) ∧ Below w0.heap.size w0 w' := by
  refine (awake_any w).mono ?_
  rintro e w' ⟨rfl, hb⟩
  exact ⟨rfl, h.trans (hb.mono h.size)⟩

/- Insertion sort: sorted, and a permutation. Plain Lean. -/

theorem swap_perm : ∀ (j : Nat) (l : List Int), j + 1 < l.length → ((l.set (j + 1) (l.getD j 0)).set j (l.getD (j + 1) 0)).Perm l
  | 0, a :: b :: t, _ => by
    show (b :: a :: t).Perm (a :: b :: t)
    exact List.Perm.swap a b t
  | 0, [_], h => by simp at h
  | 0, [], h => by simp at h
  | j + 1, [], h => by simp at h
  | j + 1, a :: l, h => by
    have := swap_perm j l (by simpa using h)
    show (a :: ((l.set (j + 1) (l.getD j 0)).set j (l.getD (j + 1) 0))).Perm (a :: l)
    exact this.cons a
theorem sink_perm (j : Nat) : ∀ l : List Int, j < l.length → (sink j l).Perm l := by
  induction j with
  | zero => intro l _; exact List.Perm.refl _
  | succ j ih =>
    intro l h
    simp only [sink]
    split
    · exact (ih _ (by simp; omega)).trans (swap_perm j l h)
    · exact List.Perm.refl _
theorem sortTo_perm (l : List Int) (i : Nat) (hi : i ≤ l.length) : (sortTo l i).Perm l := by
  induction i with
  | zero => exact List.Perm.refl _
  | succ i ih =>
    simp only [sortTo]
    exact (sink_perm i _ (by rw [sortTo_length]; omega)).trans (ih (by omega))
theorem sink_sorted (i j : Nat) : ∀ l : List Int, j ≤ i → i < l.length → (∀ a b, a < b → b ≤ i → b ≠ j → l.getD a 0 ≤ l.getD b 0) → ∀ a b, a < b → b ≤ i → (sink j l).getD a 0 ≤ (sink j l).getD b 0 := by
  induction j with
  | zero => intro l _ _ h a b hab hb; exact h a b hab hb (by omega)
  | succ j ih =>
    intro l hj hi h
    simp only [sink]
    by_cases hlt : l.getD (j + 1) 0 < l.getD j 0
    · rw [if_pos hlt]
      have hg : ∀ k, ((l.set (j + 1) (l.getD j 0)).set j (l.getD (j + 1) 0)).getD k 0 = if k = j then l.getD (j + 1) 0 else if k = j + 1 then l.getD j 0 else l.getD k 0 := by
        intro k
        rw [List.getD_eq_getElem?_getD, List.getElem?_set]
        by_cases e : j = k
        · rw [if_pos e, if_pos e.symm, if_pos (by simp; omega)]; rfl
        · rw [if_neg e, if_neg (fun h => e h.symm), List.getElem?_set]
          by_cases e2 : j + 1 = k
          · rw [if_pos e2, if_pos e2.symm, if_pos (by omega)]; rfl
          · rw [if_neg e2, if_neg (fun h => e2 h.symm), ← List.getD_eq_getElem?_getD]
      refine ih _ (by omega) (by simp; omega) fun a b hab hb hbj => ?_
      rw [hg, hg, if_neg hbj]
      by_cases e1 : b = j + 1
      · rw [if_pos e1]
        by_cases e2 : a = j
        · rw [if_pos e2]; omega
        · rw [if_neg e2, if_neg (by omega)]
          exact h a j (by omega) (by omega) (by omega)
      · rw [if_neg e1]
        by_cases e2 : a = j
        · rw [if_pos e2]; exact h (j + 1) b (by omega) hb e1
        · rw [if_neg e2]
          by_cases e3 : a = j + 1
          · rw [if_pos e3]; exact h j b (by omega) hb e1
          · rw [if_neg e3]; exact h a b hab hb e1
    · rw [if_neg hlt]
      intro a b hab hb
      by_cases e : b = j + 1
      · subst e
        by_cases e2 : a = j
        · subst e2; omega
        · have := h a j (by omega) (by omega) (by omega)
          omega
      · exact h a b hab hb e
theorem sortTo_sorted (l : List Int) (i : Nat) (hi : i ≤ l.length) : ∀ a b, a < b → b < i → (sortTo l i).getD a 0 ≤ (sortTo l i).getD b 0 := by
  induction i with
  | zero => intro a b _ hb; omega
  | succ i ih =>
    intro a b hab hb
    simp only [sortTo]
    exact sink_sorted i i (sortTo l i) (Nat.le_refl _) (by rw [sortTo_length]; omega) (fun a b hab hb hne => ih (by omega) a b hab (by omega)) a b hab (by omega)

/- The division with the greatest product is fair up to one: plain Lean. -/

theorem cmpI_neg (x y : Int) : cmpI x y = -cmpI y x := by unfold cmpI; split <;> split <;> (try split) <;> (try split) <;> omega
theorem cmpL_neg : ∀ a b : List Int, cmpL a b = -cmpL b a
  | [], [] => rfl
  | [], _ :: _ => rfl
  | _ :: _, [] => rfl
  | x :: a, y :: b => by
    simp only [cmpL]
    rw [cmpI_neg x y, cmpL_neg a b]
    by_cases h : cmpI y x = 0
    · rw [if_pos h, if_pos (by omega)]
    · rw [if_neg h, if_neg (by omega)]
theorem cmpL_self : ∀ a : List Int, cmpL a a = 0
  | [] => rfl
  | x :: a => by simp only [cmpL]; rw [if_pos (cmpI_zero.2 rfl)]; exact cmpL_self a
theorem cmpI_le {x y : Int} : cmpI x y ≤ 0 ↔ x ≤ y := by unfold cmpI; split <;> (try split) <;> omega
theorem cmpL_trans : ∀ {a b c : List Int}, cmpL a b ≤ 0 → cmpL b c ≤ 0 → cmpL a c ≤ 0
  | [], [], [], _, _ => by simp [cmpL]
  | [], [], _ :: _, _, _ => by simp [cmpL]
  | [], _ :: _, [], _, _ => by simp [cmpL]
  | [], _ :: _, _ :: _, _, _ => by simp [cmpL]
  | _ :: _, [], _, h, _ => by simp [cmpL] at h
  | _ :: _, _ :: _, [], _, h => by simp [cmpL] at h
  | x :: a, y :: b, z :: c, h1, h2 => by
    simp only [cmpL] at h1 h2 ⊢
    by_cases e1 : cmpI x y = 0
    · rw [if_pos e1] at h1
      have := cmpI_zero.1 e1
      subst this
      by_cases e2 : cmpI x z = 0
      · rw [if_pos e2] at h2 ⊢; exact cmpL_trans h1 h2
      · rw [if_neg e2] at h2 ⊢; exact h2
    · rw [if_neg e1] at h1
      have l1 := cmpI_le.1 h1
      have n1 : x ≠ y := fun h => e1 (cmpI_zero.2 h)
      by_cases e2 : cmpI y z = 0
      · have := cmpI_zero.1 e2
        subst this
        rw [if_neg e1]; exact h1
      · rw [if_neg e2] at h2
        have l2 := cmpI_le.1 h2
        rw [if_neg (fun h => by have := cmpI_zero.1 h; omega)]
        exact cmpI_le.2 (by omega)
theorem bst_max (S : Nat → List Int) (t : Nat) : ∀ s, s < t → cmpL (S s) (S (bst S t)) ≤ 0 := by
  induction t with
  | zero => intro s hs; omega
  | succ t ih =>
    intro s hs
    simp only [bst]
    by_cases h0 : t = 0
    · rw [if_pos h0]
      have : s = 0 := by omega
      rw [this, cmpL_self]; exact Int.le_refl _
    · rw [if_neg h0]
      by_cases hc : 0 < cmpL (S t) (S (bst S t))
      · rw [if_pos hc]
        by_cases e : s = t
        · rw [e, cmpL_self]; exact Int.le_refl _
        · refine cmpL_trans (ih s (by omega)) ?_
          rw [cmpL_neg]; omega
      · rw [if_neg hc]
        by_cases e : s = t
        · rw [e]; omega
        · exact ih s (by omega)
theorem dz_all {n : Nat} : ∀ (m : Nat) (d : List Int), d.length = m → (∀ x ∈ d, 0 ≤ x ∧ x < (n : Int)) → ∃ t, t < n ^ m ∧ dz n m t = d := by
  intro m
  induction m with
  | zero =>
    intro d hd _
    refine ⟨0, by simp, ?_⟩
    have : d = [] := List.length_eq_zero_iff.1 hd
    rw [this]; rfl
  | succ m ih =>
    intro d hd hb
    rcases List.eq_nil_or_concat d with rfl | ⟨d', x, rfl⟩
    · simp at hd
    · obtain ⟨t, ht, e⟩ := ih d' (by simpa using hd) fun y hy => hb y (by simp [hy])
      have hx := hb x (by simp)
      obtain ⟨p, rfl⟩ : ∃ p : Nat, x = (p : Int) := ⟨x.toNat, by omega⟩
      have hp : p < n := by omega
      have hn : 0 < n := by omega
      refine ⟨t * n + p, ?_, ?_⟩
      · rw [Nat.pow_succ]
        have h1 : (t + 1) * n ≤ n ^ m * n := Nat.mul_le_mul_right n ht
        rw [Nat.add_mul] at h1
        omega
      · have e1 : (t * n + p) / n = t := by
          rw [Nat.mul_comm, Nat.mul_add_div hn, Nat.div_eq_of_lt hp]; rfl
        have e2 : (t * n + p) % n = p := by
          rw [Nat.mul_comm, Nat.mul_add_mod, Nat.mod_eq_of_lt hp]
        unfold dz
        rw [dig, e1, e2, List.map_append]
        unfold dz at e
        rw [e]; simp

/-- The product of the first n. -/
def prodN (f : Nat → Int) : Nat → Int
  | 0 => 1
  | n + 1 => prodN f n * f n
theorem prodN_congr {f g : Nat → Int} {n : Nat} (h : ∀ k, k < n → f k = g k) : prodN f n = prodN g n := by
  induction n with
  | zero => rfl
  | succ n ih => simp only [prodN]; rw [ih fun k hk => h k (by omega), h n (by omega)]
theorem prodN_pos {f : Nat → Int} {n : Nat} (h : ∀ k, k < n → 0 < f k) : 0 < prodN f n := by
  induction n with
  | zero => simp [prodN]
  | succ n ih => simp only [prodN]; exact Int.mul_pos (ih fun k hk => h k (by omega)) (h n (by omega))
theorem sumN_out (f : Nat → Int) (i n : Nat) (h : i < n) : sumN f n = f i + sumN (fun k => if k = i then 0 else f k) n := by
  induction n with
  | zero => omega
  | succ n ih =>
    simp only [sumN]
    by_cases e : i = n
    · subst e
      have := sumN_congr (f := fun k => if k = i then 0 else f k) (g := f) (n := i) fun k hk => by rw [if_neg (by omega)]
      rw [if_pos rfl, this]
      omega
    · rw [if_neg (by omega), ih (by omega)]; omega
theorem prodN_out (f : Nat → Int) (i n : Nat) (h : i < n) : prodN f n = f i * prodN (fun k => if k = i then 1 else f k) n := by
  induction n with
  | zero => omega
  | succ n ih =>
    simp only [prodN]
    by_cases e : i = n
    · subst e
      have := prodN_congr (f := fun k => if k = i then 1 else f k) (g := f) (n := i) fun k hk => by rw [if_neg (by omega)]
      rw [if_pos rfl, this]
      rw [Int.mul_one, Int.mul_comm]
    · rw [if_neg (by omega), ih (by omega), Int.mul_assoc]
theorem sumN_lt1 {f g : Nat → Int} {n : Nat} (h : ∀ k, k < n → f k ≤ g k) {i : Nat} (hi : i < n) (hl : f i < g i) : sumN f n < sumN g n := by
  rw [sumN_out f i n hi, sumN_out g i n hi]
  have := sumN_mono (f := fun k => if k = i then 0 else f k) (g := fun k => if k = i then 0 else g k) n fun k hk => by
    by_cases e : k = i
    · rw [if_pos e, if_pos e]; exact Int.le_refl _
    · rw [if_neg e, if_neg e]; exact h k hk
  omega
theorem sumN_some {f : Nat → Int} {n : Nat} (h : 0 < sumN f n) : ∃ k, k < n ∧ 0 < f k := by
  induction n with
  | zero => simp [sumN] at h
  | succ n ih =>
    simp only [sumN] at h
    by_cases e : 0 < f n
    · exact ⟨n, by omega, e⟩
    · obtain ⟨k, hk, h2⟩ := ih (by omega)
      exact ⟨k, by omega, h2⟩
theorem posN_own (V : List (List Int)) (d : List Int) (n : Nat) : posN (ownV V d n) = sumN (fun k => if 0 < wor V d k (k : Int) then 1 else 0) n := by
  induction n with
  | zero => rfl
  | succ n ih => rw [ownV_succ, posN_snoc, ih]; rfl
theorem posP_own (V : List (List Int)) (d : List Int) (n : Nat) : posP (ownV V d n) = prodN (fun k => if 0 < wor V d k (k : Int) then wor V d k (k : Int) else 1) n := by
  induction n with
  | zero => rfl
  | succ n ih => rw [ownV_succ, posP_snoc, ih]; rfl

theorem move_better {V : List (List Int)} {d : List Int} {n i j g : Nat} (hi : i < n) (hj : j < n) (hij : i ≠ j) (hg : g < d.length) (hd : d.getD g 0 = (j : Int))
    (h0 : ∀ k, k < n → 0 ≤ wor V d k (k : Int)) (hx : 0 < (rowV V i).getD g 0) (hy : 0 ≤ (rowV V j).getD g 0) (hyl : (rowV V j).getD g 0 ≤ wor V d j (j : Int))
    (hyO : 0 < wor V d j (j : Int) → (rowV V j).getD g 0 < wor V d j (j : Int) ∧ wor V d i (i : Int) * wor V d j (j : Int) < (wor V d i (i : Int) + (rowV V i).getD g 0) * (wor V d j (j : Int) - (rowV V j).getD g 0)) :
    0 < cmpL (nashS V (d.set g (i : Int)) n) (nashS V d n) := by
  have ei : wor V (d.set g (i : Int)) i (i : Int) = wor V d i (i : Int) + (rowV V i).getD g 0 := by
    rw [wor_set hg, hd, if_neg (by omega), if_pos rfl]; omega
  have ej : wor V (d.set g (i : Int)) j (j : Int) = wor V d j (j : Int) - (rowV V j).getD g 0 := by
    rw [wor_set hg, hd, if_pos rfl, if_neg (by omega)]; omega
  have ek : ∀ k, k ≠ i → k ≠ j → wor V (d.set g (i : Int)) k (k : Int) = wor V d k (k : Int) := fun k h1 h2 => by
    rw [wor_set hg, hd, if_neg (by omega), if_neg (by omega)]; omega
  have hOi := h0 i hi
  have hOj := h0 j hj
  obtain ⟨Oi, hOie⟩ : ∃ Oi, Oi = wor V d i (i : Int) := ⟨_, rfl⟩
  obtain ⟨Oj, hOje⟩ : ∃ Oj, Oj = wor V d j (j : Int) := ⟨_, rfl⟩
  obtain ⟨x, hxe⟩ : ∃ x, x = (rowV V i).getD g 0 := ⟨_, rfl⟩
  obtain ⟨y, hye⟩ : ∃ y, y = (rowV V j).getD g 0 := ⟨_, rfl⟩
  rw [← hOie, ← hxe] at ei
  rw [← hOje, ← hye] at ej
  rw [← hOie] at hOi
  rw [← hOje] at hOj
  rw [← hOje, ← hye, ← hOie, ← hxe] at hyO
  rw [← hxe] at hx
  rw [← hye] at hy hyl
  rw [← hOje] at hyl
  have cN : ∀ f : Nat → Int, sumN f n = f i + (f j + sumN (fun k => if k = j then 0 else if k = i then 0 else f k) n) := fun f => by
    rw [sumN_out f i n hi, sumN_out _ j n hj, if_neg (by omega)]
  have cP : ∀ f : Nat → Int, prodN f n = f i * (f j * prodN (fun k => if k = j then 1 else if k = i then 1 else f k) n) := fun f => by
    rw [prodN_out f i n hi, prodN_out _ j n hj, if_neg (by omega)]
  unfold nashS
  rw [posN_own, posN_own, posP_own, posP_own, cN, cN (fun k => if 0 < wor V d k (k : Int) then 1 else 0), cP, cP (fun k => if 0 < wor V d k (k : Int) then wor V d k (k : Int) else 1)]
  rw [sumN_congr (f := fun k => if k = j then 0 else if k = i then 0 else if 0 < wor V (d.set g (i : Int)) k (k : Int) then 1 else 0) (g := fun k => if k = j then 0 else if k = i then 0 else if 0 < wor V d k (k : Int) then 1 else 0) fun k _ => by
    by_cases e1 : k = j
    · rw [if_pos e1, if_pos e1]
    · by_cases e2 : k = i
      · rw [if_neg e1, if_neg e1, if_pos e2, if_pos e2]
      · rw [if_neg e1, if_neg e1, if_neg e2, if_neg e2, ek k e2 e1]]
  rw [prodN_congr (f := fun k => if k = j then 1 else if k = i then 1 else if 0 < wor V (d.set g (i : Int)) k (k : Int) then wor V (d.set g (i : Int)) k (k : Int) else 1) (g := fun k => if k = j then 1 else if k = i then 1 else if 0 < wor V d k (k : Int) then wor V d k (k : Int) else 1) fun k _ => by
    by_cases e1 : k = j
    · rw [if_pos e1, if_pos e1]
    · by_cases e2 : k = i
      · rw [if_neg e1, if_neg e1, if_pos e2, if_pos e2]
      · rw [if_neg e1, if_neg e1, if_neg e2, if_neg e2, ek k e2 e1]]
  have hR : 0 < prodN (fun k => if k = j then 1 else if k = i then 1 else if 0 < wor V d k (k : Int) then wor V d k (k : Int) else 1) n := prodN_pos fun k _ => by
    split
    · omega
    · split
      · omega
      · split <;> omega
  generalize prodN (fun k => if k = j then 1 else if k = i then 1 else if 0 < wor V d k (k : Int) then wor V d k (k : Int) else 1) n = R at hR ⊢
  generalize sumN (fun k => if k = j then 0 else if k = i then 0 else if 0 < wor V d k (k : Int) then 1 else 0) n = Q
  simp only [ei, ej, ← hOie, ← hOje]
  rw [if_pos (show 0 < Oi + x by omega), if_pos (show 0 < Oi + x by omega)]
  have hlex : ∀ a b c e : Int, (c < a ∨ (a = c ∧ e < b)) → 0 < cmpL [a, b] [c, e] := by
    intro a b c e h
    simp only [cmpL]
    rcases h with h | ⟨h, h2⟩
    · rw [if_neg (fun hz => by have := cmpI_zero.1 hz; omega)]
      have : ¬ cmpI a c ≤ 0 := fun hz => by have := cmpI_le.1 hz; omega
      omega
    · rw [if_pos (cmpI_zero.2 h), if_neg (fun hz => by have := cmpI_zero.1 hz; omega)]
      have : ¬ cmpI b e ≤ 0 := fun hz => by have := cmpI_le.1 hz; omega
      omega
  have hOj1 : 0 < Oj - y ↔ 0 < Oj := ⟨fun h => by omega, fun h => by have := (hyO h).1; omega⟩
  refine hlex _ _ _ _ ?_
  by_cases hi0 : 0 < Oi
  · refine .inr ⟨?_, ?_⟩
    · rw [if_pos hi0]
      by_cases h : 0 < Oj
      · rw [if_pos h, if_pos (hOj1.2 h)]
      · rw [if_neg h, if_neg (fun hh => h (hOj1.1 hh))]
    · rw [if_pos hi0]
      by_cases h : 0 < Oj
      · rw [if_pos h, if_pos (hOj1.2 h), ← Int.mul_assoc, ← Int.mul_assoc]
        exact Int.mul_lt_mul_of_pos_right (hyO h).2 hR
      · rw [if_neg h, if_neg (fun hh => h (hOj1.1 hh)), Int.one_mul]
        exact Int.mul_lt_mul_of_pos_right (by omega) hR
  · refine .inl ?_
    rw [if_neg hi0]
    by_cases h : 0 < Oj
    · rw [if_pos h, if_pos (hOj1.2 h)]; omega
    · rw [if_neg h, if_neg (fun hh => h (hOj1.1 hh))]; omega

/-- A good whose loss costs j least for what i has by it. -/
theorem least_loss {vi vj : Nat → Int} {c : Nat → Prop} [DecidablePred c] {m : Nat} (hvj : ∀ k, 0 ≤ vj k) (hvi : ∀ k, 0 ≤ vi k)
    (ha : 0 < sumN (fun k => if c k then vi k else 0) m) : ∃ g, g < m ∧ c g ∧ 0 < vi g ∧ vj g * sumN (fun k => if c k then vi k else 0) m ≤ sumN (fun k => if c k then vj k else 0) m * vi g := by
  obtain ⟨g0, hg0, hp⟩ := sumN_some ha
  have hc0 : c g0 := Classical.byContradiction fun h => by simp [h] at hp
  rw [if_pos hc0] at hp
  refine Classical.byContradiction fun hno => ?_
  obtain ⟨a, hae⟩ : ∃ a, a = sumN (fun k => if c k then vi k else 0) m := ⟨_, rfl⟩
  obtain ⟨b, hbe⟩ : ∃ b, b = sumN (fun k => if c k then vj k else 0) m := ⟨_, rfl⟩
  rw [← hae, ← hbe] at hno
  rw [← hae] at ha
  have hlt : ∀ g, g < m → c g → 0 < vi g → b * vi g < a * vj g := fun g hg hc hv => by
    refine Int.not_le.1 fun h => hno ⟨g, hg, hc, hv, by rw [Int.mul_comm]; exact h⟩
  have e1 : sumN (fun k => b * (if c k then vi k else 0)) m = b * a := by rw [sumN_mul, ← hae]
  have e2 : sumN (fun k => a * (if c k then vj k else 0)) m = a * b := by rw [sumN_mul, ← hbe]
  have hl := sumN_lt1 (f := fun k => b * (if c k then vi k else 0)) (g := fun k => a * (if c k then vj k else 0)) (n := m) (i := g0) (fun k hk => by
    by_cases hc : c k
    · simp only [if_pos hc]
      by_cases hv : 0 < vi k
      · exact Int.le_of_lt (hlt k hk hc hv)
      · have : vi k = 0 := by have := hvi k; omega
        rw [this, Int.mul_zero]
        exact Int.mul_nonneg (Int.le_of_lt ha) (hvj k)
    · simp only [if_neg hc]; simp) hg0 (by simp only [if_pos hc0]; exact hlt g0 hg0 hc0 hp)
  rw [e1, e2, Int.mul_comm] at hl
  omega

theorem nash_ef1 {V : List (List Int)} {d : List Int} {n m : Nat} (hd : ∀ x ∈ d, 0 ≤ x ∧ x < (n : Int)) (hld : d.length = m) (hr : ∀ i, i < n → (rowV V i).length = m ∧ ∀ x ∈ rowV V i, 0 ≤ x ∧ x ≤ 100)
    (hmax : ∀ d' : List Int, d'.length = m → (∀ x ∈ d', 0 ≤ x ∧ x < (n : Int)) → cmpL (nashS V d' n) (nashS V d n) ≤ 0) : ef1 V d n := by
  intro i j hi hj he
  have he := of_decide_eq_true he
  have hij : i ≠ j := by rintro rfl; omega
  refine Classical.byContradiction fun hno => ?_
  have hno : ∀ g, g < d.length → d.getD g 0 = (j : Int) → wor V d i (i : Int) < wor V d i (j : Int) - (rowV V i).getD g 0 := fun g hg hgd => Int.not_le.1 fun h => hno ⟨g, hg, hgd, h⟩
  have hri := fun k => row_nonneg hr hi k
  have hrj := fun k => row_nonneg hr hj k
  have h0 : ∀ k, k < n → 0 ≤ wor V d k (k : Int) := fun k hk => (worTo_bd (hr k hk).2 _ _ _).1
  have ea : wor V d i (j : Int) = sumN (fun k => if d.getD k 0 = (j : Int) then (rowV V i).getD k 0 else 0) m := by unfold wor; rw [hld, worTo_sumN]
  have eb : wor V d j (j : Int) = sumN (fun k => if d.getD k 0 = (j : Int) then (rowV V j).getD k 0 else 0) m := by unfold wor; rw [hld, worTo_sumN]
  have hOi := h0 i hi
  have hOj := h0 j hj
  obtain ⟨g, hg, hgd, hgv, hgl⟩ := least_loss (vi := fun k => (rowV V i).getD k 0) (vj := fun k => (rowV V j).getD k 0) (c := fun k => d.getD k 0 = (j : Int)) (m := m) hrj hri (by rw [← ea]; omega)
  have hgl : (rowV V j).getD g 0 * sumN (fun k => if d.getD k 0 = (j : Int) then (rowV V i).getD k 0 else 0) m ≤ sumN (fun k => if d.getD k 0 = (j : Int) then (rowV V j).getD k 0 else 0) m * (rowV V i).getD g 0 := hgl
  rw [← ea, ← eb] at hgl
  have hn := hno g (by omega) hgd
  have hyl : (rowV V j).getD g 0 ≤ wor V d j (j : Int) := by
    have := sumN_out (fun k => if d.getD k 0 = (j : Int) then (rowV V j).getD k 0 else 0) g m hg
    rw [← eb, if_pos hgd] at this
    have h2 := sumN_mono (f := fun _ => 0) (g := fun k => if k = g then 0 else if d.getD k 0 = (j : Int) then (rowV V j).getD k 0 else 0) m fun k _ => by
      split
      · exact Int.le_refl _
      · split
        · exact hrj k
        · exact Int.le_refl _
    rw [sumN_zero] at h2
    omega
  have hy := hrj g
  have hset := hmax (d.set g (i : Int)) (by rw [List.length_set]; exact hld) (fun x hx => by
    rcases List.mem_or_eq_of_mem_set hx with h | h
    · exact hd x h
    · rw [h]; omega)
  have := move_better hi hj hij (by omega) hgd h0 hgv hy hyl fun hOjp => by
    generalize wor V d i (i : Int) = Oi at *
    generalize wor V d j (j : Int) = Oj at *
    generalize wor V d i (j : Int) = a at *
    generalize (rowV V i).getD g 0 = x at *
    generalize (rowV V j).getD g 0 = y at *
    refine ⟨?_, ?_⟩
    · refine Int.not_le.1 fun h => ?_
      have h1 : Oj * a ≤ y * a := Int.mul_le_mul_of_nonneg_right h (by omega)
      have h2 : Oj * x < Oj * a := Int.mul_lt_mul_of_pos_left (by omega) hOjp
      omega
    · have e1 : (Oi + x) * (Oj - y) = Oi * Oj + (Oj * x - y * (Oi + x)) := by
        rw [Int.mul_sub, Int.add_mul, Int.mul_comm (Oi + x) y, Int.mul_comm x Oj]; omega
      have h3 : y * (Oi + x) < Oj * x := by
        by_cases hy0 : y = 0
        · rw [hy0, Int.zero_mul]; exact Int.mul_pos hOjp hgv
        · have : y * (Oi + x) < y * a := Int.mul_lt_mul_of_pos_left (by omega) (by omega)
          omega
      omega
  omega

theorem nashB_ef1 {V : List (List Int)} {n m : Nat} (hl : V.length = n) (hm : m = (rowV V 0).length) (hn : 1 ≤ n) (hr : ∀ i, i < n → (rowV V i).length = m ∧ ∀ x ∈ rowV V i, 0 ≤ x ∧ x ≤ 100) : ef1 V (dz n m (nashB V)) n := by
  refine nash_ef1 (dz_lt (by omega) m _) (dz_length n m _) hr fun d' h1 h2 => ?_
  obtain ⟨t, ht, rfl⟩ := dz_all m d' h1 h2
  have := bst_max (fun t => nashS V (dz n m t) n) (n ^ m) t ht
  unfold nashB
  rw [hl, ← hm]
  exact this

/- Sorted lists and scores: what the divisions with the greatest scores have. Plain Lean. -/

theorem getD_pairwise {L : List Int} (h : ∀ a b, a < b → b < L.length → L.getD a 0 ≤ L.getD b 0) : L.Pairwise (· ≤ ·) := by
  rw [List.pairwise_iff_getElem]
  intro i j hi hj hij
  have := h i j hij hj
  rw [List.getD_eq_getElem?_getD, List.getD_eq_getElem?_getD, List.getElem?_eq_getElem hi, List.getElem?_eq_getElem hj] at this
  exact this
theorem sortTo_pairwise {l : List Int} {n : Nat} (h : l.length = n) : (sortTo l n).Pairwise (· ≤ ·) :=
  getD_pairwise fun a b hab hb => sortTo_sorted l n (by omega) a b hab (by rw [sortTo_length] at hb; omega)
theorem sortTo_perm' {l : List Int} {n : Nat} (h : l.length = n) : (sortTo l n).Perm l := sortTo_perm l n (by omega)

/-- How many stand ahead of x. -/
def ahead (out : List Int) (x : Int) : Nat := (out.takeWhile (fun y => decide (y ≤ x))).length
def insR (out : List Int) (x : Int) : List Int := out.take (ahead out x) ++ x :: out.drop (ahead out x)
def risTo (l : List Int) : Nat → List Int
  | 0 => []
  | k + 1 => insR (risTo l k) (l.getD k 0)
theorem ahead_le (out : List Int) (x : Int) : ahead out x ≤ out.length := by
  unfold ahead
  exact (List.takeWhile_sublist _).length_le
theorem ahead_cons (y : Int) (out : List Int) (x : Int) : ahead (y :: out) x = if y ≤ x then ahead out x + 1 else 0 := by
  unfold ahead
  rw [List.takeWhile_cons]
  by_cases h : y ≤ x
  · simp [h]
  · simp [h]
theorem insR_cons (y : Int) (out : List Int) (x : Int) : insR (y :: out) x = if y ≤ x then y :: insR out x else x :: y :: out := by
  unfold insR
  rw [ahead_cons]
  by_cases h : y ≤ x
  · rw [if_pos h, if_pos h]; rfl
  · rw [if_neg h, if_neg h]; rfl
theorem insR_length (out : List Int) (x : Int) : (insR out x).length = out.length + 1 := by
  have := ahead_le out x
  unfold insR
  simp only [List.length_append, List.length_take, List.length_cons, List.length_drop]
  omega
theorem risTo_length (l : List Int) (k : Nat) : (risTo l k).length = k := by
  induction k with
  | zero => rfl
  | succ k ih => rw [risTo, insR_length, ih]
theorem insR_perm (out : List Int) (x : Int) : (insR out x).Perm (x :: out) := by
  unfold insR
  have h : (x :: (out.take (ahead out x) ++ out.drop (ahead out x))).Perm (x :: out) := by rw [List.take_append_drop]
  exact List.perm_middle.trans h
theorem insR_pairwise {out : List Int} (x : Int) (h : out.Pairwise (· ≤ ·)) : (insR out x).Pairwise (· ≤ ·) := by
  induction out with
  | nil => simp [insR]
  | cons y out ih =>
    rw [insR_cons]
    rw [List.pairwise_cons] at h
    by_cases hy : y ≤ x
    · rw [if_pos hy, List.pairwise_cons]
      refine ⟨fun z hz => ?_, ih h.2⟩
      rcases List.mem_cons.1 ((insR_perm out x).mem_iff.1 hz) with e | e
      · omega
      · exact h.1 z e
    · rw [if_neg hy, List.pairwise_cons]
      refine ⟨fun z hz => ?_, List.pairwise_cons.2 h⟩
      rcases List.mem_cons.1 hz with e | e
      · omega
      · have := h.1 z e; omega
theorem risTo_perm (l : List Int) (k : Nat) (hk : k ≤ l.length) : (risTo l k).Perm (l.take k) := by
  induction k with
  | zero => simp [risTo]
  | succ k ih =>
    have hl : k < l.length := hk
    have e : l.take (k + 1) = l.take k ++ [l.getD k 0] := by
      rw [List.take_add_one, List.getElem?_eq_getElem hl, List.getD_eq_getElem?_getD, List.getElem?_eq_getElem hl]; rfl
    rw [e, risTo]
    exact (insR_perm _ _).trans (((ih (by omega)).cons _).trans (by simpa using (List.perm_append_singleton (l.getD k 0) (l.take k)).symm))
theorem risTo_pairwise (l : List Int) (k : Nat) : (risTo l k).Pairwise (· ≤ ·) := by
  induction k with
  | zero => simp [risTo]
  | succ k ih => exact insR_pairwise _ ih
theorem sorted_unique {a b : List Int} (h : a.Perm b) (ha : a.Pairwise (· ≤ ·)) (hb : b.Pairwise (· ≤ ·)) : a = b :=
  List.Perm.eq_of_pairwise (le := fun x y => x ≤ y) (fun _ _ _ _ h1 h2 => Int.le_antisymm h1 h2) ha hb h
theorem risTo_eq {l : List Int} {n : Nat} (h : l.length = n) : risTo l n = sortTo l n := by
  refine sorted_unique ?_ (risTo_pairwise l n) (sortTo_pairwise h)
  refine (risTo_perm l n (by omega)).trans ?_
  rw [List.take_of_length_le (by omega)]
  exact (sortTo_perm' h).symm

/-- before of the reference. -/
def befL : List Int → List Int → Bool
  | x :: a, y :: b => if x ≠ y then decide (x < y) else befL a b
  | _, _ => false
theorem befL_iff : ∀ {a b : List Int}, a.length = b.length → (befL a b = true ↔ 0 < cmpL b a)
  | [], [], _ => by simp [befL, cmpL]
  | [], _ :: _, h => by simp at h
  | _ :: _, [], h => by simp at h
  | x :: a, y :: b, h => by
    simp only [befL, cmpL]
    by_cases e : x = y
    · subst e
      rw [if_neg (by simp), if_pos (cmpI_zero.2 rfl)]
      exact befL_iff (by simpa using h)
    · rw [if_pos e, if_neg (fun h => e (cmpI_zero.1 h).symm)]
      unfold cmpI
      rw [decide_eq_true_eq]
      split
      · omega
      · split <;> omega
theorem cmpL_len {a b : List Int} (h : cmpL a b = 0) : a = b := by
  induction a generalizing b with
  | nil => cases b with
    | nil => rfl
    | cons y b => simp [cmpL] at h
  | cons x a ih => cases b with
    | nil => simp [cmpL] at h
    | cons y b =>
      simp only [cmpL] at h
      by_cases e : cmpI x y = 0
      · rw [if_pos e] at h; rw [cmpI_zero.1 e, ih h]
      · rw [if_neg e] at h; exact absurd h e

/-! ### better divisions have greater scores -/

theorem lessAny_cons (a : Int) (x : List Int) (b : Int) (y : List Int) : lessAny (a :: x) (b :: y) = (decide (a < b) || lessAny x y) := by simp [lessAny]
theorem pos_mono : ∀ {x y : List Int}, x.length = y.length → (∀ e ∈ y, 0 ≤ e) → lessAny x y = false →
    posN y ≤ posN x ∧ (posN y = posN x → posP y ≤ posP x ∧ (lessAny y x = true → posP y < posP x))
  | [], [], _, _, _ => ⟨Int.le_refl _, fun _ => ⟨Int.le_refl _, fun h => by simp [lessAny] at h⟩⟩
  | [], _ :: _, h, _, _ => by simp at h
  | _ :: _, [], h, _, _ => by simp at h
  | a :: x, b :: y, h, h0, hl => by
    rw [lessAny_cons, Bool.or_eq_false_iff] at hl
    obtain ⟨i1, i2⟩ := pos_mono (x := x) (y := y) (by simpa using h) (fun e he => h0 e (List.mem_cons_of_mem _ he)) hl.2
    have hab : b ≤ a := by have := of_decide_eq_false hl.1; omega
    have hb := h0 b (List.mem_cons_self ..)
    simp only [posN, posP, lessAny_cons]
    have hpx := (show ∀ l : List Int, 1 ≤ posP l from fun l => by
      induction l with
      | nil => simp [posP]
      | cons z l ih =>
        simp only [posP]
        split
        · exact Int.le_trans (by omega) (Int.mul_le_mul ih (show (1 : Int) ≤ z by omega) (by omega) (by omega))
        · rw [Int.mul_one]; exact ih)
    have hx1 := hpx x
    have hy1 := hpx y
    by_cases b0 : 0 < b
    · have a0 : 0 < a := by omega
      rw [if_pos a0, if_pos b0, if_pos a0, if_pos b0]
      refine ⟨by omega, fun he => ?_⟩
      obtain ⟨j1, j2⟩ := i2 (by omega)
      refine ⟨Int.mul_le_mul j1 hab (by omega) (by omega), fun hs => ?_⟩
      simp only [Bool.or_eq_true, decide_eq_true_eq] at hs
      rcases hs with hs | hs
      · calc posP y * b ≤ posP x * b := Int.mul_le_mul_of_nonneg_right j1 (by omega)
          _ < posP x * a := Int.mul_lt_mul_of_pos_left hs (by omega)
      · calc posP y * b < posP x * b := Int.mul_lt_mul_of_pos_right (j2 hs) b0
          _ ≤ posP x * a := Int.mul_le_mul_of_nonneg_left hab (by omega)
    · rw [if_neg b0, if_neg b0]
      by_cases a0 : 0 < a
      · rw [if_pos a0, if_pos a0]
        exact ⟨by omega, fun he => by omega⟩
      · rw [if_neg a0, if_neg a0]
        refine ⟨by omega, fun he => ?_⟩
        obtain ⟨j1, j2⟩ := i2 (by omega)
        rw [Int.mul_one, Int.mul_one]
        refine ⟨j1, fun hs => j2 ?_⟩
        simp only [Bool.or_eq_true, decide_eq_true_eq] at hs
        rcases hs with hs | hs
        · omega
        · exact hs
theorem cmp2 {a b c d : Int} (h1 : c ≤ a) (h2 : c = a → d < b) : 0 < cmpL [a, b] [c, d] := by
  simp only [cmpL]
  by_cases e : c = a
  · subst e
    rw [if_pos (cmpI_zero.2 rfl)]
    have := h2 rfl
    have hne : cmpI b d ≠ 0 := fun h => by have := cmpI_zero.1 h; omega
    rw [if_neg hne]
    unfold cmpI
    rw [if_neg (by omega), if_pos this]; omega
  · rw [if_neg (fun h => e (cmpI_zero.1 h).symm)]
    unfold cmpI
    rw [if_neg (by omega), if_pos (by omega)]; omega
theorem bet_nash {x y : List Int} (hl : x.length = y.length) (h0 : ∀ e ∈ y, 0 ≤ e) (h : bet x y = true) : 0 < cmpL [posN x, posP x] [posN y, posP y] := by
  unfold bet at h
  simp only [Bool.and_eq_true, Bool.not_eq_true'] at h
  obtain ⟨h1, h2⟩ := pos_mono hl h0 h.1
  exact cmp2 h1 fun e => (h2 e).2 h.2

theorem sorted_count : ∀ {L : List Int} (_ : L.Pairwise (· ≤ ·)) (k : Nat) (v : Int), (∃ z, L[k]? = some z ∧ z ≤ v) ↔ k < L.countP (fun z => decide (z ≤ v))
  | [], _, k, v => by simp
  | a :: L, h, k, v => by
    rw [List.pairwise_cons] at h
    rw [List.countP_cons]
    cases k with
    | zero =>
      by_cases ha : a ≤ v
      · simp [ha]
      · simp only [List.getElem?_cons_zero, Option.some.injEq]
        have : L.countP (fun z => decide (z ≤ v)) = 0 := by
          rw [List.countP_eq_zero]
          intro z hz
          have := h.1 z hz
          simp only [decide_eq_true_eq]
          omega
        rw [this]
        simp [ha]
    | succ k =>
      rw [List.getElem?_cons_succ, sorted_count h.2 k v]
      by_cases ha : a ≤ v
      · simp [ha]
      · have : L.countP (fun z => decide (z ≤ v)) = 0 := by
          rw [List.countP_eq_zero]
          intro z hz
          have := h.1 z hz
          simp only [decide_eq_true_eq]
          omega
        rw [this]
        simp [ha]
theorem count_mono (v : Int) : ∀ {x y : List Int}, x.length = y.length → lessAny x y = false → x.countP (fun z => decide (z ≤ v)) ≤ y.countP (fun z => decide (z ≤ v))
  | [], [], _, _ => Nat.le_refl _
  | [], _ :: _, h, _ => by simp at h
  | _ :: _, [], h, _ => by simp at h
  | a :: x, b :: y, h, hl => by
    rw [lessAny_cons, Bool.or_eq_false_iff] at hl
    have ih := count_mono v (x := x) (y := y) (by simpa using h) hl.2
    have hab : b ≤ a := by have := of_decide_eq_false hl.1; omega
    rw [List.countP_cons, List.countP_cons]
    by_cases ha : a ≤ v
    · have hb : b ≤ v := by omega
      simp only [ha, hb, decide_true, if_true]; omega
    · by_cases hb : b ≤ v
      · simp only [ha, hb, decide_false, decide_true]; simp; omega
      · simp only [ha, hb, decide_false]; simpa using ih
def lsum : List Int → Int
  | [] => 0
  | x :: l => x + lsum l
theorem lsum_perm {a b : List Int} (h : a.Perm b) : lsum a = lsum b := by
  induction h with
  | nil => rfl
  | cons x _ ih => simp only [lsum, ih]
  | swap x y l => simp only [lsum]; omega
  | trans _ _ h1 h2 => rw [h1, h2]
theorem lsum_mono : ∀ {x y : List Int}, x.length = y.length → lessAny x y = false → lsum y ≤ lsum x ∧ (lessAny y x = true → lsum y < lsum x)
  | [], [], _, _ => ⟨Int.le_refl _, fun h => by simp [lessAny] at h⟩
  | [], _ :: _, h, _ => by simp at h
  | _ :: _, [], h, _ => by simp at h
  | a :: x, b :: y, h, hl => by
    rw [lessAny_cons, Bool.or_eq_false_iff] at hl
    obtain ⟨i1, i2⟩ := lsum_mono (x := x) (y := y) (by simpa using h) hl.2
    have hab : b ≤ a := by have := of_decide_eq_false hl.1; omega
    simp only [lsum, lessAny_cons]
    refine ⟨by omega, fun hs => ?_⟩
    simp only [Bool.or_eq_true, decide_eq_true_eq] at hs
    rcases hs with hs | hs
    · omega
    · have := i2 hs; omega
theorem cmp_point : ∀ {a b : List Int}, a.length = b.length → (∀ (k : Nat) (u v : Int), a[k]? = some u → b[k]? = some v → v ≤ u) → a ≠ b → 0 < cmpL a b
  | [], [], _, _, h => absurd rfl h
  | [], _ :: _, h, _, _ => by simp at h
  | _ :: _, [], h, _, _ => by simp at h
  | x :: a, y :: b, h, hp, hne => by
    have h0 := hp 0 x y rfl rfl
    simp only [cmpL]
    by_cases e : x = y
    · subst e
      rw [if_pos (cmpI_zero.2 rfl)]
      exact cmp_point (by simpa using h) (fun k u v hu hv => hp (k + 1) u v hu hv) (fun e => hne (by rw [e]))
    · rw [if_neg (fun h => e (cmpI_zero.1 h))]
      unfold cmpI
      rw [if_neg (by omega), if_pos (by omega)]; omega
theorem bet_sort {x y : List Int} {n : Nat} (hx : x.length = n) (hy : y.length = n) (h : bet x y = true) : 0 < cmpL (sortTo x n) (sortTo y n) := by
  unfold bet at h
  simp only [Bool.and_eq_true, Bool.not_eq_true'] at h
  refine cmp_point (by rw [sortTo_length, sortTo_length, hx, hy]) (fun k u v hu hv => ?_) (fun e => ?_)
  · have h1 := (sorted_count (sortTo_pairwise hx) k u).1 ⟨u, hu, Int.le_refl _⟩
    rw [(sortTo_perm' hx).countP_eq] at h1
    have h2 := count_mono u (by rw [hx, hy]) h.1
    have h3 : k < (sortTo y n).countP (fun z => decide (z ≤ u)) := by rw [(sortTo_perm' hy).countP_eq]; omega
    obtain ⟨z, hz, hzu⟩ := (sorted_count (sortTo_pairwise hy) k u).2 h3
    rw [hv] at hz
    injection hz with hz
    omega
  · have h1 := lsum_perm (sortTo_perm' hx)
    have h2 := lsum_perm (sortTo_perm' hy)
    rw [e] at h1
    have h3 := (lsum_mono (by rw [hx, hy]) h.1).2 h.2
    omega
theorem head_low {x y : List Int} {n : Nat} (hx : x.length = n) (hy : y.length = n) (hn : 0 < n) (h : cmpL (sortTo x n) (sortTo y n) ≤ 0) : lmin x ≤ lmin y := by
  have key : ∀ {z : List Int}, z.length = n → ∃ L, sortTo z n = lmin z :: L := by
    intro z hz
    have hp := sortTo_perm' hz
    have hs := sortTo_pairwise hz
    have hl : (sortTo z n).length = n := by rw [sortTo_length, hz]
    cases hS : sortTo z n with
    | nil => rw [hS] at hl; simp at hl; omega
    | cons a L =>
      refine ⟨L, ?_⟩
      rw [hS] at hp hs
      rw [List.pairwise_cons] at hs
      have hzn : z ≠ [] := by intro e; rw [e] at hz; simp at hz; omega
      have h1 : a ≤ lmin z := (lmin_ge hzn a).2 fun u hu => by
        rcases List.mem_cons.1 (hp.mem_iff.2 hu) with e | e
        · omega
        · exact hs.1 u e
      have h2 : lmin z ≤ a := (lmin_ge hzn (lmin z)).1 (Int.le_refl _) a (hp.mem_iff.1 (List.mem_cons_self ..))
      rw [Int.le_antisymm h1 h2]
  obtain ⟨L1, e1⟩ := key hx
  obtain ⟨L2, e2⟩ := key hy
  rw [e1, e2] at h
  simp only [cmpL] at h
  by_cases e : cmpI (lmin x) (lmin y) = 0
  · have := cmpI_zero.1 e; omega
  · rw [if_neg e] at h; exact cmpI_le.1 h

/- What Nash and Least answer to the copied values, read plainly; divisions. -/

theorem divV_mk {V : List (List Int)} {d : List Int} {n m : Nat} (hl : V.length = n) (hm : m = (rowV V 0).length) (hd : d.length = m) (hb : ∀ x ∈ d, 0 ≤ x ∧ x < (n : Int)) : divV V d = true := by
  unfold divV
  simp only [Bool.and_eq_true, decide_eq_true_eq, Bool.not_eq_true', List.any_eq_false]
  refine ⟨by omega, fun x hx => ?_⟩
  have := hb x hx
  unfold badD
  rw [decide_eq_false (by omega), decide_eq_false (by omega)]
  simp
theorem divV_get {V : List (List Int)} {d : List Int} {n m : Nat} (hl : V.length = n) (hm : m = (rowV V 0).length) (h : divV V d = true) : d.length = m ∧ ∀ x ∈ d, 0 ≤ x ∧ x < (n : Int) := by
  unfold divV at h
  simp only [Bool.and_eq_true, decide_eq_true_eq, Bool.not_eq_true', List.any_eq_false] at h
  refine ⟨by omega, fun x hx => ?_⟩
  have := h.2 x hx
  unfold badD at this
  simp only [Bool.or_eq_true, decide_eq_true_eq, not_or] at this
  omega

/-- Nash, asked of the copy. -/
theorem nash2_any (A : Option Addr) (q c n m : Nat) (V : List (List Int)) (w : World) (hq : (fewV V).length = q) (hq6 : q ≤ 6) (hl : V.length = n) (hm : m = (rowV V 0).length) (hM : Mat w A (fewV V)) :
    Calls Try.prog 43 #[.slice A q c] w fun e w' => ∃ NA nk nc pv gv, e = .returned (.tuple #[.slice NA nk nc, .int .i64 pv, .int .i64 gv]) ∧
      ((valV V = false ∧ NA = none ∧ nc = 0 ∧ nk = 0 ∧ pv = 0 ∧ gv = 2) ∨ (valV V = true ∧ gv = 0 ∧ nk = m ∧ pv = posP (ownV V (dz n m (nashB V)) n) ∧ nk ≤ nc ∧ nc ≤ 9223372036854775807 ∧ Ints w' NA (dz n m (nashB V)))) ∧ Below w.heap.size w w' := by
  refine (nash_any A q c (fewV V) w hq (by omega) hM).mono ?_
  intro e w' h
  unfold NashPost at h
  rw [valV_few] at h
  rcases h with ⟨hg, rfl, hb⟩ | ⟨hg, NA, nc, rfl, h1, h2, hI, hb⟩
  · exact ⟨none, 0, 0, 0, 2, rfl, .inl ⟨hg, rfl, rfl, rfl, rfl, rfl⟩, hb⟩
  · rw [fewV_ok hg] at h1 hI ⊢
    rw [hl, ← hm] at hI
    rw [← hm] at h1
    exact ⟨some NA, m, nc, _, 0, by rw [hl, ← hm], .inr ⟨hg, rfl, rfl, rfl, h1, h2, hI⟩, hb⟩
/-- Least, asked of the copy. -/
theorem least2_any (A : Option Addr) (q c n m : Nat) (V : List (List Int)) (w : World) (hq : (fewV V).length = q) (hq6 : q ≤ 6) (hl : V.length = n) (hm : m = (rowV V 0).length) (hM : Mat w A (fewV V)) :
    Calls Try.prog 44 #[.slice A q c] w fun e w' => ∃ NA nk nc gv, e = .returned (.tuple #[.slice NA nk nc, .int .i64 gv]) ∧
      ((valV V = false ∧ NA = none ∧ nc = 0 ∧ nk = 0 ∧ gv = 2) ∨ (valV V = true ∧ gv = 0 ∧ nk = m ∧ nk ≤ nc ∧ nc ≤ 9223372036854775807 ∧ Ints w' NA (dz n m (leastB V)))) ∧ Below w.heap.size w w' := by
  refine (sleast_any A q c (fewV V) w hq (by omega) hM).mono ?_
  intro e w' h
  unfold LeastPost at h
  rw [valV_few] at h
  rcases h with ⟨hg, rfl, hb⟩ | ⟨hg, NA, nc, rfl, h1, h2, hI, hb⟩
  · exact ⟨none, 0, 0, 2, rfl, .inl ⟨hg, rfl, rfl, rfl, rfl⟩, hb⟩
  · rw [fewV_ok hg] at h1 hI ⊢
    rw [hl, ← hm] at hI
    rw [← hm] at h1
    exact ⟨some NA, m, nc, 0, by rw [← hm], .inr ⟨hg, rfl, rfl, h1, h2, hI⟩, hb⟩

/-- No division has a greater product than Nash's. -/
theorem nashB_max {V : List (List Int)} {d : List Int} {n m : Nat} (hl : V.length = n) (hm : m = (rowV V 0).length) (hd : d.length = m) (hb : ∀ x ∈ d, 0 ≤ x ∧ x < (n : Int)) :
    cmpL (nashS V d n) (nashS V (dz n m (nashB V)) n) ≤ 0 := by
  obtain ⟨t, ht, e⟩ := dz_all m d hd hb
  have h := bst_max (fun t => nashS V (dz n m t) n) (n ^ m) t ht
  simp only [e] at h
  unfold nashB
  rw [hl, ← hm]
  exact h
theorem leastB_max {V : List (List Int)} {d : List Int} {n m : Nat} (hl : V.length = n) (hm : m = (rowV V 0).length) (hd : d.length = m) (hb : ∀ x ∈ d, 0 ≤ x ∧ x < (n : Int)) :
    cmpL (sortTo (ownV V d n) n) (sortTo (ownV V (dz n m (leastB V)) n) n) ≤ 0 := by
  obtain ⟨t, ht, e⟩ := dz_all m d hd hb
  have h := bst_max (fun t => sortTo (ownV V (dz n m t) n) n) (n ^ m) t ht
  simp only [e] at h
  unfold leastB
  rw [hl, ← hm]
  exact h
theorem cmp2_le {a b c d : Int} (h : cmpL [a, b] [c, d] ≤ 0) : a < c ∨ (a = c ∧ b ≤ d) := by
  simp only [cmpL] at h
  by_cases e : cmpI a c = 0
  · rw [if_pos e] at h
    refine .inr ⟨cmpI_zero.1 e, ?_⟩
    by_cases e2 : cmpI b d = 0
    · have := cmpI_zero.1 e2; omega
    · rw [if_neg e2] at h; exact cmpI_le.1 h
  · rw [if_neg e] at h
    have h1 := cmpI_le.1 h
    have : a ≠ c := fun h => e (cmpI_zero.2 h)
    omega
/-- Nothing is better than Nash's division, nor than Least's. -/
theorem nashB_best {V : List (List Int)} {n m : Nat} (hl : V.length = n) (hm : m = (rowV V 0).length) (hm7 : m ≤ 7) (hr : ∀ i, i < n → (rowV V i).length = m ∧ ∀ x ∈ rowV V i, 0 ≤ x ∧ x ≤ 100) :
    (divs n m).find? (better V (dz n m (nashB V))) = none := by
  rw [List.find?_eq_none]
  intro d hd hbt
  by_cases hn : 0 < n
  · rw [divs_eq hn m] at hd
    obtain ⟨t, _, rfl⟩ := List.mem_map.1 hd
    unfold better at hbt
    rw [hl] at hbt
    have h1 := nashB_max hl hm (dz_length n m t) (dz_lt hn m t)
    have h2 := bet_nash (by rw [ownV_length, ownV_length]) (fun e he => (own_bd (V := V) (d := dz n m (nashB V)) (n := n) (by rw [dz_length]; exact hr) (by rw [dz_length]; exact hm7) e he).1) hbt
    unfold nashS at h1
    omega
  · obtain rfl : n = 0 := by omega
    unfold better at hbt
    rw [hl] at hbt
    simp [ownV, bet, lessAny] at hbt
theorem leastB_best {V : List (List Int)} {n m : Nat} (hl : V.length = n) (hm : m = (rowV V 0).length) :
    (divs n m).find? (better V (dz n m (leastB V))) = none := by
  rw [List.find?_eq_none]
  intro d hd hbt
  by_cases hn : 0 < n
  · rw [divs_eq hn m] at hd
    obtain ⟨t, _, rfl⟩ := List.mem_map.1 hd
    unfold better at hbt
    rw [hl] at hbt
    have h1 := leastB_max hl hm (dz_length n m t) (dz_lt hn m t)
    have h2 := bet_sort (ownV_length _ _ _) (ownV_length _ _ _) hbt
    omega
  · obtain rfl : n = 0 := by omega
    unfold better at hbt
    rw [hl] at hbt
    simp [ownV, bet, lessAny] at hbt

/- Append of any elements to an owned slice, as a step of a region that draws its order. -/

theorem wp_appN0 {T e : TypeId} {z : Value} {size bytes : Nat} (ty : STy T e z size bytes) {o : Oper} {a : Act} {K : Act → World → Prop} {Q : Exit → Act → World → Prop} {w : World}
    (s x : Operand) (ho : o.op = .call { callee := .builtin .append, args := #[s, x], argTypes := #[T, T] })
    (base : Nat) (A : Option Addr) (n k : Nat) (xs : List Value)
    (hs : a.eval s = .slice A n k) (hown : w.ownsRow base e size (.slice A n k) n xs)
    (B : Option Addr) (m c : Nat) (news : List Value) (hB : B = none → m = 0 ∧ c = 0) (hl : news.length = m * size) (hnews : At w B news) (h1 : ∀ u ∈ news, u.oneCell' = true) (hx : a.eval x = .slice B m c)
    (hn : n + m ≤ 1000000) (hb : base ≤ w.heap.size) (nm : Nat) (hnm : nm = n + m)
    (h : ∀ (A' : Option Addr) (k' : Nat) (w' : World), w'.ownsRow base e size (.slice A' nm k') nm (xs ++ news) → w.grownBy w' (Value.slice A n k).ownBlock → Below base w w' → nm ≤ k' → k' ≤ 9223372036854775807 →
      K (a.put o.dst (.slice A' nm k')) w') : o.wp Try.prog a w K Q := by
  subst hnm
  cases B with
  | none =>
    obtain ⟨rfl, rfl⟩ := hB rfl
    obtain rfl : news = [] := List.eq_nil_of_length_eq_zero (by simpa using hl)
    obtain ⟨i0, hi, _, hz1, _⟩ := info_parts ty.inf
    subst hz1
    have hk := own_form hown
    obtain ⟨_, _, he, h3, h4, _⟩ := hk
    injection he with _ _ he
    subst he
    have hr := run_append_owned_none (P := Try.prog) (w := w) base T o.type e i0 i0.size ty.ht hi (.slice A n k) n xs (by simpa using hown)
    unfold Oper.wp execOp
    simp only [ho, resolve, invoke, builtin, Sem.run_bind, Sem.run_pure, Result.andThen_ok, List.map_toArray, List.map_cons, List.map_nil, hs, hx, hr]
    exact h A k w (by simpa using hown) ⟨rfl, rfl, rfl, Nat.le_refl _, fun _ _ _ => rfl⟩ (Below.refl _ _) (by omega) h4
  | some ad => exact wp_appN ty s x ho base A n k xs hs hown ad m c news hl (At.some2 hnews) h1 hx hn hb h

theorem step_appN {T e : TypeId} {z : Value} {size bytes : Nat} (ty : STy T e z size bytes) {ops : Array Oper} {o : Oper} {a : Act} {K : Act → World → Prop} {Q : Exit → Act → World → Prop} {E : Prop} {w : World}
    (s x : Operand) (ho : o.op = .call { callee := .builtin .append, args := #[s, x], argTypes := #[T, T] }) (hwant : Region.wanted o (yielded ops a.tmps) = true)
    (base : Nat) (A : Option Addr) (n k : Nat) (xs : List Value)
    (hs : a.eval s = .slice A n k) (hown : w.ownsRow base e size (.slice A n k) n xs)
    (B : Option Addr) (m c : Nat) (news : List Value) (hB : B = none → m = 0 ∧ c = 0) (hl : news.length = m * size) (hnews : At w B news) (h1 : ∀ u ∈ news, u.oneCell' = true) (hx : a.eval x = .slice B m c)
    (hn : n + m ≤ 1000000) (hb : base ≤ w.heap.size) (nm : Nat) (hnm : nm = n + m)
    (h : ∀ (A' : Option Addr) (k' : Nat) (w' : World), w'.ownsRow base e size (.slice A' nm k') nm (xs ++ news) → w.grownBy w' (Value.slice A n k).ownBlock → Below base w w' → nm ≤ k' → k' ≤ 9223372036854775807 →
      K (a.put o.dst (.slice A' nm k')) w') : if Region.wanted o (yielded ops a.tmps) = true then Oper.wp Try.prog o a w K Q else E := by
  rw [if_pos hwant]
  exact wp_appN0 ty s x ho base A n k xs hs hown B m c news hB hl hnews h1 hx hn hb nm hnm h

/- Contract: rising of the reference (package corrodyref01). -/

theorem takeWhile_step {out : List Int} {x : Int} {k : Nat} {y : Int} (hk : k ≤ ahead out x) (hy : out[k]? = some y) : (y ≤ x ↔ k < ahead out x) := by
  induction out generalizing k with
  | nil => simp at hy
  | cons z out ih =>
    rw [ahead_cons] at hk ⊢
    cases k with
    | zero =>
      simp only [List.getElem?_cons_zero, Option.some.injEq] at hy
      subst hy
      by_cases h : z ≤ x
      · simp [h]
      · simp [h]
    | succ k =>
      rw [List.getElem?_cons_succ] at hy
      by_cases h : z ≤ x
      · rw [if_pos h] at hk ⊢
        have := ih (by omega) hy
        omega
      · rw [if_neg h] at hk; omega

/-- What the two parts of a slice are: read from wherever the slice reads. -/
theorem slice_parts (B : Option Addr) (k bc q : Nat) (os : List Int) (hk : os.length = k) (hq : q ≤ k) (hbc : k ≤ bc) (hB : B = none → k = 0 ∧ bc = 0) :
    (∀ w' : World, (Instr.slice 23 (.slice B k bc) none (some (.int .i64 (q : Int))) none).run Try.prog w' = .ok (.slice B q bc) w') ∧
    ∃ B2 c2, (∀ w' : World, (Instr.slice 23 (.slice B k bc) (some (.int .i64 (q : Int))) none none).run Try.prog w' = .ok (.slice B2 (k - q) c2) w') ∧
      (∀ w' : World, Ints w' B os → At w' B2 ((os.drop q).map (Value.int .i64))) ∧ (B2 = none → k - q = 0 ∧ c2 = 0) := by
  have he : Try.prog.elem 23 = 3 := by kernel_rfl
  have hu : Try.prog.underlying 23 = some (.slice (Try.prog.elem 23)) := by rw [he]; exact Try.underlying23
  have hs : ∀ w', (sizeOf (Try.prog.elem 23)).run Try.prog w' = .ok 1 w' := by
    intro w'
    obtain ⟨i0, hi, _, hz1, _⟩ := info_parts info_int
    rw [he, run_sizeOf (w := w') hi]
    simp [Program.cellsOf, hi, hz1]
  refine ⟨fun w' => ?_, if bc = q then B else B.map (·.add (q * 1)), bc - q, fun w' => ?_, fun w' hI => ?_, fun h => ?_⟩
  · rw [run_slice_h (w := w') 23 B k bc hu .i64 (q : Int) (by omega) (by omega)]
    rw [hs]
    simp only [Result.andThen_ok, sliced, Int.toNat_natCast, Nat.zero_mul, Nat.sub_zero]
    by_cases h0 : bc = 0
    · rw [if_pos h0]
    · rw [if_neg h0]
      cases B with
      | none => exact absurd (hB rfl).2 h0
      | some ad => rfl
  · rw [run_slice_l (w := w') 23 B k bc hu .i64 (q : Int) (by omega) (by omega)]
    rw [hs]
    simp only [Result.andThen_ok, sliced, Int.toNat_natCast]
  · intro i v hv
    rw [List.getElem?_map, List.getElem?_drop] at hv
    cases hx : os[q + i]? with
    | none => rw [hx] at hv; cases hv
    | some x =>
      rw [hx] at hv
      injection hv with hv
      subst hv
      have hlt := (List.getElem?_eq_some_iff.1 hx).1
      obtain ⟨ad, rfl, hc⟩ := hI (q + i) (.int .i64 x) (by rw [List.getElem?_map, hx]; rfl)
      rw [if_neg (by omega)]
      refine ⟨ad.add (q * 1), rfl, ?_⟩
      rw [add_add, Nat.mul_one]
      exact hc
  · by_cases e : bc = q
    · rw [if_pos e] at h
      have := hB h
      omega
    · rw [if_neg e] at h
      cases B with
      | none => have := hB rfl; omega
      | some ad => cases h

set_option maxRecDepth 100000 in
set_option maxHeartbeats 3200000 in
theorem rising_any (A : Option Addr) (n cap : Nat) (l : List Int) (w : World) (hl : l.length = n) (hn : n ≤ 4) (hI : Ints w A l) :
    Calls Try.prog 82 #[.slice A n cap] w fun e w' => ∃ B c, e = .returned (.slice B n c) ∧ Ints w' B (risTo l n) ∧ Below w.heap.size w w' := by
  have H := Lib.hid (And.intro hl hI)
  clear hl hI
  go_enter Try.func82, Try.ntmps82
  go_wp2_with fail
  go_loopw [3, 9] (fun ov iv wr => ∃ (k : Nat) (B : Option Addr) (bc : Nat), k ≤ n ∧ iv = .int .i64 k ∧ ov = .slice B k bc ∧ k ≤ bc ∧ bc ≤ 9223372036854775807 ∧ (B = none → k = 0 ∧ bc = 0) ∧ Ints wr B (risTo l k) ∧ Below w.heap.size w wr) (fun _ iv _ => n - (intOf iv).toNat)
  case atStart => exact ⟨0, none, 0, Nat.zero_le _, rfl, rfl, Nat.zero_le _, by omega, fun _ => ⟨rfl, rfl⟩, Ints.nil, Below.refl _ _⟩
  case round =>
    obtain ⟨k, B, bc, hk, rfl, rfl, hkb, hbm, hB, hI, hbl⟩ := hrel
    obtain ⟨wo, rfl⟩ : ∃ wo : World, wo = wr := ⟨_, rfl⟩
    have HR := Lib.hid (And.intro hI (And.intro hbl (And.intro hB hkb)))
    have hws := hbl.size
    clear hI hbl hB hkb
    by_cases hlt : k < n
    · obtain ⟨x, hx⟩ : ∃ x, l[k]? = some x := ⟨_, List.getElem?_eq_getElem (by have := H.out.1; omega)⟩
      obtain ⟨ad, rfl, hc⟩ := H.out.2 k (.int .i64 x) (by rw [List.getElem?_map, hx]; rfl)
      have hc2 := (HR.out.2.1.cell (lt_of_cell hc)).trans hc
      have hnew : risTo l (k + 1) = insR (risTo l k) x := by rw [risTo, List.getD_eq_getElem?_getD, hx]; rfl
      obtain ⟨q, hq⟩ : ∃ q, q = ahead (risTo l k) x := ⟨_, rfl⟩
      have hqk : q ≤ k := by rw [hq]; have := ahead_le (risTo l k) x; rw [risTo_length] at this; exact this
      have HN := Lib.hid (And.intro hnew hq)
      have l1 : (k : Int) < (n : Int) := by omega
      clear hx hc hnew hq
      go_wp2_with fail
      go_loop [6] (fun av => ∃ p : Nat, p ≤ q ∧ av = .int .i64 p) (fun av => q - (intOf av).toNat)
      case atStart => exact ⟨0, Nat.zero_le _, rfl⟩
      case round =>
        obtain ⟨p, hp, rfl⟩ := hrel
        by_cases hpq : p < q
        · obtain ⟨y, hy⟩ : ∃ y, (risTo l k)[p]? = some y := ⟨_, List.getElem?_eq_getElem (by rw [risTo_length]; omega)⟩
          have hyx := (takeWhile_step (out := risTo l k) (x := x) (k := p) (by rw [← HN.out.2]; exact hp) hy).2 (by rw [← HN.out.2]; exact hpq)
          obtain ⟨bd, rfl, hcb⟩ := HR.out.1 p (.int .i64 y) (by rw [List.getElem?_map, hy]; rfl)
          have l2 : (p : Int) < (k : Int) := by omega
          have d2 : decide (y ≤ x) = true := decide_eq_true hyx
          clear hy
          go_wp2_with fail
          go_round
          case rel => exact ⟨p + 1, by omega, by go_num⟩
          case measure => simp [intOf]; omega
        · obtain rfl : p = q := by omega
          obtain ⟨hs1, B2, c2, hs2, hat2, hB2⟩ := slice_parts B k bc p (risTo l k) (risTo_length _ _) hqk HR.out.2.2.2 HR.out.2.2.1
          obtain ⟨r, hr⟩ : ∃ r, r = k - p := ⟨_, rfl⟩
          rw [← hr] at hs2 hB2
          have hat1 : ∀ w', Below wo.heap.size wo w' → At w' B (((risTo l k).take p).map (Value.int .i64)) := by
            intro w' hb i v hv
            refine (HR.out.1.below hb) i v ?_
            rw [List.getElem?_map, List.getElem?_take] at hv
            rw [List.getElem?_map]
            split at hv
            · exact hv
            · cases hv
          have hat2' : ∀ w', Below wo.heap.size wo w' → At w' B2 (((risTo l k).drop p).map (Value.int .i64)) := fun w' hb => hat2 w' (HR.out.1.below hb)
          have hl1 : (((risTo l k).take p).map (Value.int .i64)).length = p * 1 := by rw [List.length_map, List.length_take, risTo_length]; omega
          have hl2 : (((risTo l k).drop p).map (Value.int .i64)).length = r * 1 := by rw [List.length_map, List.length_drop, risTo_length]; omega
          have hBn : B = none → p = 0 ∧ bc = 0 := fun h => by have := HR.out.2.2.1 h; omega
          have HA := Lib.hid (And.intro hat1 (And.intro hat2' (And.intro hl1 (And.intro hl2 (And.intro hBn hB2)))))
          have hgt : p < k → ∃ y bd, (risTo l k)[p]? = some y ∧ B = some bd ∧ wo.cell? (bd.add p) = some (.int .i64 y) ∧ ¬ y ≤ x := by
            intro hpk
            obtain ⟨y, hy⟩ : ∃ y, (risTo l k)[p]? = some y := ⟨_, List.getElem?_eq_getElem (by rw [risTo_length]; omega)⟩
            have hyx := mt (takeWhile_step (out := risTo l k) (x := x) (k := p) (by rw [← HN.out.2]; exact hp) hy).1 (by rw [← HN.out.2]; omega)
            obtain ⟨bd, hbd, hcb⟩ := HR.out.1 p (.int .i64 y) (by rw [List.getElem?_map, hy]; rfl)
            exact ⟨y, bd, hy, hbd, hcb, hyx⟩
          have HRR := Lib.hid hr
          have HE0 : Hid ((wo.alloc (.cells #[] 3)).drew.ownsRow wo.heap.size 3 1 (.slice (some ⟨wo.heap.size, 0, none⟩) 0 0) 0 []) := Lib.hid (own_new (w := wo) 3 #[] (show 0 ≤ maxLen by decide)).drew
          have HB0 : Hid (Below wo.heap.size wo (wo.alloc (.cells #[] 3)).drew) := Lib.hid ((Below.refl _ _).alloc (Nat.le_refl _) _).drew
          have hxc : ∀ w6, ((wo.alloc (.cells #[] 3)).drew.alloc (.cells #[.int .i64 x] 3)).grownBy w6 (Value.slice (some ⟨wo.heap.size, 0, none⟩) 0 0).ownBlock → At w6 (some ⟨wo.heap.size + 1, 0, none⟩) [.int .i64 x] := by
            intro w6 hg i v hv
            obtain ⟨ad', had, hc'⟩ := (Blk.new (wo.alloc (.cells #[] 3)).drew 3 #[.int .i64 x] (show wo.heap.size + 1 = _ by simp)).at_ i v hv
            refine ⟨ad', had, hg.cell hc' ?_⟩
            injection had with had
            subst had
            rw [add_block]
            intro h
            injection h with h
            have : wo.heap.size + 1 = wo.heap.size := h
            omega
          have HXC := Lib.hid hxc
          have hc0 : ((wo.alloc (.cells #[.int .i64 x] 3)).drew.alloc (.cells #[] 3)).ownsRow wo.heap.size 3 1 (.slice (some ⟨wo.heap.size + 1, 0, none⟩) 0 0) 0 [] ∧ Below wo.heap.size wo ((wo.alloc (.cells #[.int .i64 x] 3)).drew.alloc (.cells #[] 3)) ∧
              ∀ w6, ((wo.alloc (.cells #[.int .i64 x] 3)).drew.alloc (.cells #[] 3)).grownBy w6 (Value.slice (some ⟨wo.heap.size + 1, 0, none⟩) 0 0).ownBlock → At w6 (some ⟨wo.heap.size, 0, none⟩) [.int .i64 x] := by
            refine ⟨?_, (((Below.refl _ _).alloc (Nat.le_refl _) _).drew).alloc (by simp) _, ?_⟩
            · have h := own_new (w := (wo.alloc (.cells #[.int .i64 x] 3)).drew) 3 #[] (show 0 ≤ maxLen by decide)
              have e : (wo.alloc (.cells #[.int .i64 x] 3)).drew.heap.size = wo.heap.size + 1 := by simp
              rw [e] at h
              exact own_mono h (by omega)
            · intro w6 hg i v hv
              obtain ⟨ad', had, hc'⟩ := ((Blk.new wo 3 #[.int .i64 x] rfl).drewN 1).at_ i v hv
              injection had with had
              subst had
              refine ⟨_, rfl, hg.cell (a := (⟨wo.heap.size, 0, none⟩ : Addr).add i) ((World.cell?_alloc_lt _ _ _ (lt_of_cell hc')).trans hc') ?_⟩
              rw [add_block]
              intro h
              injection h with h
              have : wo.heap.size = wo.heap.size + 1 := h
              omega
          have HC0 := Lib.hid hc0
          have fin : ∀ (A8 : Option Addr) (k8 : Nat) (w8 : World), w8.ownsRow wo.heap.size 3 1 (.slice A8 (k + 1) k8) (k + 1) (([] ++ ((risTo l k).take p).map (Value.int .i64) ++ [.int .i64 x]) ++ ((risTo l k).drop p).map (Value.int .i64)) → Below wo.heap.size wo w8 →
              (A8 = none → k + 1 = 0 ∧ k8 = 0) ∧ Ints w8 A8 (risTo l (k + 1)) ∧ Below w.heap.size w w8 := by
            intro A8 k8 w8 hown hb
            refine ⟨fun h => ?_, ?_, HR.out.2.1.trans (hb.mono hws)⟩
            · obtain ⟨g, hg, _⟩ := own_some hown (by omega)
              rw [hg] at h; cases h
            · have e : (([] ++ ((risTo l k).take p).map (Value.int .i64) ++ [.int .i64 x]) ++ ((risTo l k).drop p).map (Value.int .i64)) = (risTo l (k + 1)).map (Value.int .i64) := by
                rw [HN.out.1, insR, ← HN.out.2]; simp
              rw [e] at hown
              exact At.of_own hown
          have FIN := Lib.hid fin
          clear hat1 hat2 hat2' hl1 hl2 hBn hB2 HR hr hxc hc0 fin
          by_cases hpk : p < k
          · obtain ⟨y, bd, hy, rfl, hcb, hyx⟩ := hgt hpk
            have l2 : (p : Int) < (k : Int) := by omega
            have d2 : decide (y ≤ x) = false := decide_eq_false hyx
            clear hy hgt hyx
            go_wp2_with fail
            go_region_held3 (fun _ => True) (trivial)
              (first
                | (refine step_appN sty_int (.tmp 27) (.tmp 30) (by rfl) (by rfl) wo.heap.size (some ⟨wo.heap.size, 0, none⟩) 0 0 [] (by rfl) (by first | exact HE0.out | exact HE0.out.alloc _) (some bd) p bc _ HA.out.2.2.2.2.1 HA.out.2.2.1 (HA.out.1 _ (by first | exact HB0.out | exact HB0.out.alloc (by simp) _)) (ints_one _) (by rfl) (by omega) (by simp; try omega) p (by omega) ?_; intro A6 k6 w6 hown6 hg6 hbl6 hk61 hk62; have hb6 : Below wo.heap.size wo w6 := Below.trans (by first | exact HB0.out | exact HB0.out.alloc (by simp) _) hbl6)
                | (refine step_appN sty_int (.tmp 27) (.tmp 30) (by rfl) (by rfl) wo.heap.size (some ⟨wo.heap.size + 1, 0, none⟩) 0 0 [] (by rfl) HC0.out.1 (some bd) p bc _ HA.out.2.2.2.2.1 HA.out.2.2.1 (HA.out.1 _ HC0.out.2.1) (ints_one _) (by rfl) (by omega) (by simp; try omega) p (by omega) ?_; intro A6 k6 w6 hown6 hg6 hbl6 hk61 hk62; have hb6 : Below wo.heap.size wo w6 := Below.trans HC0.out.2.1 hbl6)
                | (refine step_appN sty_int (.tmp 31) (.tmp 33) (by rfl) (by rfl) wo.heap.size A6 p k6 _ (by rfl) (hown6.alloc _) (some ⟨w6.heap.size, 0, none⟩) 1 1 [.int .i64 x] (fun h => by cases h) rfl (Blk.new w6 3 #[.int .i64 x] rfl).at_ (by simp [Value.oneCell']) (by rfl) (by omega) (by have := hb6.size; simp; omega) (p + 1) rfl ?_; intro A7 k7 w7 hown7 hg7 hbl7 hk71 hk72; have hb7 : Below wo.heap.size wo w7 := (hb6.alloc hb6.size _).trans hbl7)
                | (refine step_appN sty_int (.tmp 31) (.tmp 33) (by rfl) (by rfl) wo.heap.size A6 p k6 _ (by rfl) hown6 (some ⟨wo.heap.size + 1, 0, none⟩) 1 1 [.int .i64 x] (fun h => by cases h) rfl (HXC.out _ hg6) (by simp [Value.oneCell']) (by rfl) (by omega) hb6.size (p + 1) rfl ?_; intro A7 k7 w7 hown7 hg7 hbl7 hk71 hk72; have hb7 : Below wo.heap.size wo w7 := hb6.trans hbl7)
                | (refine step_appN sty_int (.tmp 31) (.tmp 33) (by rfl) (by rfl) wo.heap.size A6 p k6 _ (by rfl) hown6 (some ⟨wo.heap.size, 0, none⟩) 1 1 [.int .i64 x] (fun h => by cases h) rfl (HC0.out.2.2 _ hg6) (by simp [Value.oneCell']) (by rfl) (by omega) hb6.size (p + 1) rfl ?_; intro A7 k7 w7 hown7 hg7 hbl7 hk71 hk72; have hb7 : Below wo.heap.size wo w7 := hb6.trans hbl7)
                | (refine step_appN sty_int (.tmp 34) (.tmp 37) (by rfl) (by rfl) wo.heap.size A7 (p + 1) k7 _ (by rfl) hown7 B2 r c2 _ HA.out.2.2.2.2.2 HA.out.2.2.2.1 (HA.out.2.1 _ hb7) (ints_one _) (by rfl) (by have := HRR.out; omega) hb7.size (k + 1) (by have := HRR.out; omega) ?_; intro A8 k8 w8 hown8 hg8 hbl8 hk81 hk82; have hb8 : Below wo.heap.size wo w8 := hb7.trans hbl8))
            all_goals
              have hfin := FIN.out A8 k8 w8 hown8 hb8
              clear hown8 hg8 hbl8 hb8 hown7 hg7 hbl7 hb7 hown6 hg6 hbl6 hb6
              go_wp2_with fail
              go_roundw
              case rel => exact ⟨k + 1, A8, k8, by omega, by go_num, rfl, hk81, hk82, hfin⟩
              case measure => simp [intOf]; omega
          · have l2 : ¬ (p : Int) < (k : Int) := by omega
            clear hgt
            go_wp2_with fail
            go_region_held3 (fun _ => True) (trivial)
              (first
                | (refine step_appN sty_int (.tmp 27) (.tmp 30) (by rfl) (by rfl) wo.heap.size (some ⟨wo.heap.size, 0, none⟩) 0 0 [] (by rfl) (by first | exact HE0.out | exact HE0.out.alloc _) B p bc _ HA.out.2.2.2.2.1 HA.out.2.2.1 (HA.out.1 _ (by first | exact HB0.out | exact HB0.out.alloc (by simp) _)) (ints_one _) (by rfl) (by omega) (by simp; try omega) p (by omega) ?_; intro A6 k6 w6 hown6 hg6 hbl6 hk61 hk62; have hb6 : Below wo.heap.size wo w6 := Below.trans (by first | exact HB0.out | exact HB0.out.alloc (by simp) _) hbl6)
                | (refine step_appN sty_int (.tmp 27) (.tmp 30) (by rfl) (by rfl) wo.heap.size (some ⟨wo.heap.size + 1, 0, none⟩) 0 0 [] (by rfl) HC0.out.1 B p bc _ HA.out.2.2.2.2.1 HA.out.2.2.1 (HA.out.1 _ HC0.out.2.1) (ints_one _) (by rfl) (by omega) (by simp; try omega) p (by omega) ?_; intro A6 k6 w6 hown6 hg6 hbl6 hk61 hk62; have hb6 : Below wo.heap.size wo w6 := Below.trans HC0.out.2.1 hbl6)
                | (refine step_appN sty_int (.tmp 31) (.tmp 33) (by rfl) (by rfl) wo.heap.size A6 p k6 _ (by rfl) (hown6.alloc _) (some ⟨w6.heap.size, 0, none⟩) 1 1 [.int .i64 x] (fun h => by cases h) rfl (Blk.new w6 3 #[.int .i64 x] rfl).at_ (by simp [Value.oneCell']) (by rfl) (by omega) (by have := hb6.size; simp; omega) (p + 1) rfl ?_; intro A7 k7 w7 hown7 hg7 hbl7 hk71 hk72; have hb7 : Below wo.heap.size wo w7 := (hb6.alloc hb6.size _).trans hbl7)
                | (refine step_appN sty_int (.tmp 31) (.tmp 33) (by rfl) (by rfl) wo.heap.size A6 p k6 _ (by rfl) hown6 (some ⟨wo.heap.size + 1, 0, none⟩) 1 1 [.int .i64 x] (fun h => by cases h) rfl (HXC.out _ hg6) (by simp [Value.oneCell']) (by rfl) (by omega) hb6.size (p + 1) rfl ?_; intro A7 k7 w7 hown7 hg7 hbl7 hk71 hk72; have hb7 : Below wo.heap.size wo w7 := hb6.trans hbl7)
                | (refine step_appN sty_int (.tmp 31) (.tmp 33) (by rfl) (by rfl) wo.heap.size A6 p k6 _ (by rfl) hown6 (some ⟨wo.heap.size, 0, none⟩) 1 1 [.int .i64 x] (fun h => by cases h) rfl (HC0.out.2.2 _ hg6) (by simp [Value.oneCell']) (by rfl) (by omega) hb6.size (p + 1) rfl ?_; intro A7 k7 w7 hown7 hg7 hbl7 hk71 hk72; have hb7 : Below wo.heap.size wo w7 := hb6.trans hbl7)
                | (refine step_appN sty_int (.tmp 34) (.tmp 37) (by rfl) (by rfl) wo.heap.size A7 (p + 1) k7 _ (by rfl) hown7 B2 r c2 _ HA.out.2.2.2.2.2 HA.out.2.2.2.1 (HA.out.2.1 _ hb7) (ints_one _) (by rfl) (by have := HRR.out; omega) hb7.size (k + 1) (by have := HRR.out; omega) ?_; intro A8 k8 w8 hown8 hg8 hbl8 hk81 hk82; have hb8 : Below wo.heap.size wo w8 := hb7.trans hbl8))
            all_goals
              have hfin := FIN.out A8 k8 w8 hown8 hb8
              clear hown8 hg8 hbl8 hb8 hown7 hg7 hbl7 hb7 hown6 hg6 hbl6 hb6
              go_wp2_with fail
              go_roundw
              case rel => exact ⟨k + 1, A8, k8, by omega, by go_num, rfl, hk81, hk82, hfin⟩
              case measure => simp [intOf]; omega
    · obtain rfl : k = n := by omega
      go_wp2_with fail
      go_ret
      exact ⟨B, bc, rfl, HR.out.1, HR.out.2.1⟩

/- Contract: before of the reference (package corrodyref01). -/

theorem befL_get {a b : List Int} {k : Nat} {x y : Int} (hx : a[k]? = some x) (hy : b[k]? = some y) : befL (a.drop k) (b.drop k) = if x ≠ y then decide (x < y) else befL (a.drop (k + 1)) (b.drop (k + 1)) := by
  obtain ⟨h1, e1⟩ := List.getElem?_eq_some_iff.1 hx
  obtain ⟨h2, e2⟩ := List.getElem?_eq_some_iff.1 hy
  rw [List.drop_eq_getElem_cons h1, List.drop_eq_getElem_cons h2, e1, e2, befL]

set_option maxHeartbeats 800000 in
theorem before_any (A B : Option Addr) (n ca cb : Nat) (ps qs : List Int) (w : World) (hl : ps.length = n) (hl' : qs.length = n) (hn : n ≤ 1000) (h : Ints w A ps) (h' : Ints w B qs) :
    Calls Try.prog 83 #[.slice A n ca, .slice B n cb] w fun e w' => e = .returned (.bool (befL ps qs)) ∧ w = w' := by
  have hI := fun (hp : 0 < ps.length) => h.some_ hp
  have hI' := fun (hp : 0 < qs.length) => h'.some_ hp
  have H := Lib.hid (And.intro hl (And.intro hl' (And.intro hI hI')))
  clear hl hl' hI hI' h h'
  go_enter Try.func83, Try.ntmps83
  go_wp2_with fail
  go_loop [9] (fun i => ∃ k : Nat, k ≤ n ∧ i = .int .i64 k ∧ befL ps qs = befL (ps.drop k) (qs.drop k)) (fun i => n - (intOf i).toNat)
  case atStart => exact ⟨0, Nat.zero_le _, rfl, rfl⟩
  case round =>
    obtain ⟨k, hk, rfl, he⟩ := hrel
    have HE := Lib.hid he
    clear he
    obtain ⟨hl, hl', hI, hI'⟩ := H.out
    by_cases hlt : k < n
    · obtain ⟨ad, rfl, _, hc⟩ := hI (by omega)
      obtain ⟨bd, rfl, _, hc'⟩ := hI' (by omega)
      obtain ⟨x, hx⟩ : ∃ x, ps[k]? = some x := ⟨_, List.getElem?_eq_getElem (by omega)⟩
      obtain ⟨y, hy⟩ : ∃ y, qs[k]? = some y := ⟨_, List.getElem?_eq_getElem (by omega)⟩
      have c1 := hc k x hx
      have c2 := hc' k y hy
      have HG := Lib.hid (befL_get hx hy)
      have l1 : (k : Int) < (n : Int) := by omega
      clear hl hl' hI hI' hc hc' hx hy
      by_cases hz : x = y
      · have hb : (x != y) = false := by simp [hz]
        have HN : Hid (befL ps qs = befL (ps.drop (k + 1)) (qs.drop (k + 1))) := Lib.hid (by rw [HE.out, HG.out, if_neg (by simp [hz])])
        clear hz
        go_wp2_with fail
        go_round
        case rel => exact ⟨k + 1, by omega, by go_num, HN.out⟩
        case measure => simp [intOf]; omega
      · have hb : (x != y) = true := by simp [hz]
        have HN : Hid (befL ps qs = decide (x < y)) := Lib.hid (by rw [HE.out, HG.out, if_pos hz])
        clear hz
        go_wp2_with fail
        go_ret
        exact ⟨ret_bool HN.out.symm, rfl⟩
    · obtain rfl : n = k := by omega
      have HN : Hid (befL ps qs = false) := Lib.hid (by rw [HE.out, List.drop_of_length_le (by omega)]; rfl)
      clear hl hl' hI hI'
      go_wp2_with fail
      go_ret
      exact ⟨ret_bool HN.out.symm, rfl⟩

/- Contract: Nash of the reference (package corrodyref01). -/

theorem bst_on {S : Nat → List Int} {j : Nat} (h : 0 < j → 0 < cmpL (S j) (S (bst S j))) : bst S (j + 1) = j := by
  simp only [bst]
  by_cases h0 : j = 0
  · rw [if_pos h0]; exact h0.symm
  · rw [if_neg h0, if_pos (h (by omega))]
theorem bst_off {S : Nat → List Int} {j : Nat} (h0 : 0 < j) (h : ¬ 0 < cmpL (S j) (S (bst S j))) : bst S (j + 1) = bst S j := by
  simp only [bst]
  rw [if_neg (by omega), if_neg h]
theorem cmp2_iff {a b c d : Int} : 0 < cmpL [a, b] [c, d] ↔ (c < a ∨ (a = c ∧ d < b)) := by
  constructor
  · intro h
    simp only [cmpL] at h
    by_cases e : cmpI a c = 0
    · rw [if_pos e] at h
      by_cases e2 : cmpI b d = 0
      · rw [if_pos e2] at h; omega
      · rw [if_neg e2] at h
        refine .inr ⟨cmpI_zero.1 e, ?_⟩
        apply Int.not_le.1
        intro hle
        have := cmpI_le.2 hle
        omega
    · rw [if_neg e] at h
      refine .inl ?_
      apply Int.not_le.1
      intro hle
      have := cmpI_le.2 hle
      omega
  · rintro (h | ⟨rfl, h⟩)
    · exact cmp2 (by omega) (fun e => by omega)
    · exact cmp2 (Int.le_refl _) (fun _ => h)
theorem divs_get {n m j : Nat} {os : List Int} (hn : 0 < n) (h : (divs n m)[j]? = some os) : os = dz n m j := by
  rw [divs_eq hn m, List.getElem?_map] at h
  cases hr : (List.range (n ^ m))[j]? with
  | none => rw [hr] at h; cases h
  | some k =>
    rw [hr] at h
    have := List.getElem?_eq_some_iff.1 hr
    obtain ⟨hk, e⟩ := this
    rw [List.getElem_range] at e
    subst e
    injection h with h
    exact h.symm

/-- The best so far, after j divisions. -/
def NSt (V : List (List Int)) (n m j : Nat) (B : Option Addr) (bl bc : Nat) (mo po : Int) (w : World) : Prop :=
  (j = 0 ∧ bl = 0 ∧ B = none ∧ bc = 0 ∧ mo = -1 ∧ po = 0) ∨
  (0 < j ∧ bl = m ∧ mo = posN (ownV V (dz n m (bst (fun t => nashS V (dz n m t) n) j)) n) ∧ po = posP (ownV V (dz n m (bst (fun t => nashS V (dz n m t) n) j)) n) ∧ Ints w B (dz n m (bst (fun t => nashS V (dz n m t) n) j)))
theorem NSt.below {V : List (List Int)} {n m j : Nat} {B : Option Addr} {bl bc : Nat} {mo po : Int} {w w' : World} (h : NSt V n m j B bl bc mo po w) (hb : Below w.heap.size w w') : NSt V n m j B bl bc mo po w' := by
  rcases h with h | ⟨h1, h2, h3, h4, h5⟩
  · exact .inl h
  · exact .inr ⟨h1, h2, h3, h4, h5.below hb⟩
theorem NSt.on {V : List (List Int)} {n m j : Nat} {B B' : Option Addr} {bl bc bc' : Nat} {mo po cn pp : Int} {w w' : World} (h : NSt V n m j B bl bc mo po w) (h1 : cn = posN (ownV V (dz n m j) n)) (h2 : pp = posP (ownV V (dz n m j) n))
    (hc : mo < cn ∨ (cn = mo ∧ po < pp)) (hI : Ints w' B' (dz n m j)) : NSt V n m (j + 1) B' m bc' cn pp w' := by
  have e : bst (fun t => nashS V (dz n m t) n) (j + 1) = j := bst_on fun hj => by
    rcases h with ⟨h0, _⟩ | ⟨_, _, h3, h4, _⟩
    · omega
    · show 0 < cmpL [posN (ownV V (dz n m j) n), posP (ownV V (dz n m j) n)] [posN (ownV V (dz n m (bst (fun t => nashS V (dz n m t) n) j)) n), posP (ownV V (dz n m (bst (fun t => nashS V (dz n m t) n) j)) n)]
      rw [← h1, ← h2, ← h3, ← h4]
      exact cmp2_iff.2 hc
  exact .inr ⟨by omega, rfl, by rw [e]; exact h1, by rw [e]; exact h2, by rw [e]; exact hI⟩
theorem NSt.off {V : List (List Int)} {n m j : Nat} {B : Option Addr} {bl bc : Nat} {mo po cn pp : Int} {w w' : World} (h : NSt V n m j B bl bc mo po w) (h1 : cn = posN (ownV V (dz n m j) n)) (h2 : pp = posP (ownV V (dz n m j) n))
    (hc : ¬ (mo < cn ∨ (cn = mo ∧ po < pp))) (hb : Below w.heap.size w w') : NSt V n m (j + 1) B bl bc mo po w' := by
  rcases h with ⟨_, _, _, _, h0, _⟩ | ⟨hj, hbl, h3, h4, hI⟩
  · have := posN_bd (ownV V (dz n m j) n)
    exact absurd (Or.inl (by omega)) hc
  · have e : bst (fun t => nashS V (dz n m t) n) (j + 1) = bst (fun t => nashS V (dz n m t) n) j := bst_off hj fun hlt => by
      replace hlt : 0 < cmpL [posN (ownV V (dz n m j) n), posP (ownV V (dz n m j) n)] [posN (ownV V (dz n m (bst (fun t => nashS V (dz n m t) n) j)) n), posP (ownV V (dz n m (bst (fun t => nashS V (dz n m t) n) j)) n)] := hlt
      rw [← h1, ← h2, ← h3, ← h4] at hlt
      exact hc (cmp2_iff.1 hlt)
    exact .inr ⟨by omega, hbl, by rw [e]; exact h3, by rw [e]; exact h4, by rw [e]; exact hI.below hb⟩
theorem NSt.bd {V : List (List Int)} {n m j : Nat} {B : Option Addr} {bl bc : Nat} {mo po : Int} {w : World} (h : NSt V n m j B bl bc mo po w) (hr : ∀ i, i < n → (rowV V i).length = m ∧ ∀ x ∈ rowV V i, 0 ≤ x ∧ x ≤ 100) (hm7 : m ≤ 7) (hn : n ≤ 4) : -1 ≤ mo ∧ mo ≤ 4 ∧ 0 ≤ po ∧ po ≤ 1000000000000 := by
  rcases h with ⟨_, _, _, _, h1, h2⟩ | ⟨_, _, h1, h2, _⟩
  · omega
  · have hb := own_bd (V := V) (d := dz n m (bst (fun t => nashS V (dz n m t) n) j)) (n := n) (by rw [dz_length]; exact hr) (by rw [dz_length]; exact hm7)
    have h3 := posN_bd (ownV V (dz n m (bst (fun t => nashS V (dz n m t) n) j)) n)
    have h4 := posP_bd (ownV V (dz n m (bst (fun t => nashS V (dz n m t) n) j)) n) (fun x hx => (hb x hx).2)
    rw [ownV_length] at h3 h4
    have h5 : ((1000 : Int) ^ n) ≤ 1000000000000 := by
      have hk3 : n = 0 ∨ n = 1 ∨ n = 2 ∨ n = 3 ∨ n = 4 := by omega
      rcases hk3 with rfl | rfl | rfl | rfl | rfl <;> decide
    omega

set_option maxRecDepth 100000 in
set_option maxHeartbeats 3200000 in
theorem r1nash_any (A : Option Addr) (n cap m : Nat) (V : List (List Int)) (w : World) (hl : V.length = n) (hn : 1 ≤ n ∧ n ≤ 4) (hm : m = (rowV V 0).length) (hm7 : 1 ≤ m ∧ m ≤ 7)
    (hr : ∀ i, i < n → (rowV V i).length = m ∧ ∀ x ∈ rowV V i, 0 ≤ x ∧ x ≤ 100) (hV : Mat w A V) :
    Calls Try.prog 45 #[.slice A n cap] w fun e w' => ∃ B bc, e = .returned (.tuple #[.slice B m bc, .int .i64 (posP (ownV V (dz n m (nashB V)) n))]) ∧ Ints w' B (dz n m (nashB V)) ∧ Below w.heap.size w w' := by
  obtain ⟨ad, rfl, had, hc⟩ := hV.some_ (by omega)
  obtain ⟨A0, c0, g1, g2, g3, g4⟩ := hc 0 _ (List.getElem?_eq_getElem (by omega))
  have e : (V[0]'(by omega)).length = m := by rw [hm, rowV_get (List.getElem?_eq_getElem (by omega))]
  rw [e] at g1 g2
  have g1' : w.cell? ad = some (.slice A0 m c0) := g1
  have l0 : (0 : Int) < (n : Int) := by omega
  have hps := divs_small hn.2 hm7.2
  have hdl := divs_length n m
  rw [← hdl] at hps
  have hpos : 0 < (divs n m).length := by rw [hdl]; exact Nat.pow_pos (by omega)
  obtain ⟨L, hL⟩ : ∃ L, L = divs n m := ⟨_, rfl⟩
  rw [← hL] at hps hpos hdl
  have hnb : nashB V = bst (fun t => nashS V (dz n m t) n) (n ^ m) := by unfold nashB; rw [hl, ← hm]
  have H := Lib.hid (And.intro hl (And.intro hr (And.intro hV (And.intro hL (And.intro hnb hdl)))))
  clear hl hm hr hV hc g1 g4 e hL hnb hdl
  go_enter Try.func45, Try.ntmps45
  go_wp2_with fail
  refine (divisions_any n hn m _ hm7.2).mono ?_
  rw [← H.out.2.2.2.1]
  rintro e w4 ⟨A4, c4, vs4, rfl, hown4, hrows4, _, hbl4⟩
  obtain ⟨ql, hql⟩ : ∃ ql, ql = L.length := ⟨_, rfl⟩
  have hat4 : At w4 A4 vs4 := At.of_own hown4
  rw [← hql] at hps hpos ⊢
  have H4 := Lib.hid (And.intro hat4 (And.intro hrows4 (And.intro hbl4 hql)))
  have hw4 := hbl4.size
  clear hown4 hrows4 hbl4 hat4 hql
  go_wp2_with fail
  go_loopw [4, 5, 6, 21] (fun bv mv pv jv wr => ∃ (j : Nat) (B : Option Addr) (bl bc : Nat) (mo po : Int), j ≤ ql ∧ jv = .int .i64 j ∧ bv = .slice B bl bc ∧ mv = .int .i64 mo ∧ pv = .int .i64 po ∧ NSt V n m j B bl bc mo po wr ∧ Below w4.heap.size w4 wr) (fun _ _ _ jv _ => ql - (intOf jv).toNat)
  case atStart => exact ⟨0, none, 0, 0, -1, 0, Nat.zero_le _, rfl, rfl, rfl, rfl, .inl ⟨rfl, rfl, rfl, rfl, rfl, rfl⟩, Below.refl _ _⟩
  case round =>
    obtain ⟨j, B, bl, bc, mo, po, hj, rfl, rfl, rfl, rfl, hst, hbl⟩ := hrel
    obtain ⟨wp, rfl⟩ : ∃ wp : World, wp = wr := ⟨_, rfl⟩
    have hbd := hst.bd H.out.2.1 hm7.2 hn.2
    have HR := Lib.hid (And.intro hst hbl)
    have hwp := hbl.size
    clear hst hbl
    by_cases hlj : j < ql
    · obtain ⟨os, hos⟩ : ∃ os, L[j]? = some os := ⟨_, List.getElem?_eq_getElem (by rw [← H4.out.2.2.2]; exact hlj)⟩
      have hosd : os = dz n m j := divs_get (by omega) (by rw [← H.out.2.2.2.1]; exact hos)
      have hosl : os.length = m := by rw [hosd]; exact dz_length _ _ _
      obtain ⟨v, hv, A', c', rfl, hc1, hc2, hI, _⟩ := H4.out.2.1.2 j os hos
      rw [hosl] at hv hc1
      obtain ⟨ad4, rfl, hcell⟩ := H4.out.1 j _ hv
      have hcell2 := (HR.out.2.cell (lt_of_cell hcell)).trans hcell
      have l1 : (j : Int) < (ql : Int) := by omega
      have HS := Lib.hid (And.intro (hI.below HR.out.2) (And.intro hosd (And.intro hosl (H4.out.2.2.1.trans (HR.out.2.mono hw4)))))
      clear hI hos hosl hv hcell hosd
      go_wp2_with fail
      refine (r1own_any (some ad) n cap A' m c' V os _ H.out.1 (by omega) HS.out.2.2.1 (by omega) H.out.2.1 (H.out.2.2.1.below HS.out.2.2.2) HS.out.1).mono ?_
      rintro e w6 ⟨A6, c6, rfl, hown6, hb6⟩
      have hob := own_bd (V := V) (d := os) (n := n) (by rw [HS.out.2.2.1]; exact H.out.2.1) (by rw [HS.out.2.2.1]; exact hm7.2)
      have hI6 : Ints w6 A6 (ownV V os n) := At.of_own hown6
      obtain ⟨o, ho⟩ : ∃ o, o = ownV V os n := ⟨_, rfl⟩
      have hol : o.length = n := by rw [ho, ownV_length]
      rw [← ho] at hI6 hob
      have H6 := Lib.hid (And.intro hI6 (And.intro hob (And.intro hol (And.intro ho hb6))))
      have hw6 := hb6.size
      clear hown6 hI6 hob hol ho hb6
      go_wp2_with fail
      go_loop [9, 10, 29] (fun cv pv i => ∃ k : Nat, k ≤ n ∧ i = .int .i64 k ∧ cv = .int .i64 (posN (o.take k)) ∧ pv = .int .i64 (posP (o.take k))) (fun _ _ i => n - (intOf i).toNat)
      case atStart => exact ⟨0, Nat.zero_le _, rfl, rfl, rfl⟩
      case round =>
        obtain ⟨k, hk, rfl, rfl, rfl⟩ := hrel
        have hnb := posN_bd (o.take k)
        have hpb := posP_bd (o.take k) (fun x hx => (H6.out.2.1 x (List.mem_of_mem_take hx)).2)
        have hlen : (o.take k).length = k := by rw [List.length_take]; have := H6.out.2.2.1; omega
        rw [hlen] at hnb hpb
        by_cases hlt : k < n
        · obtain ⟨x, hx⟩ : ∃ x, o[k]? = some x := ⟨_, List.getElem?_eq_getElem (by have := H6.out.2.2.1; omega)⟩
          obtain ⟨ad6, rfl, hc⟩ := H6.out.1 k (.int .i64 x) (by rw [List.getElem?_map, hx]; rfl)
          have hx1 := H6.out.2.1 x (List.mem_of_getElem? hx)
          have hpb2 : posP (o.take k) ≤ 1000000000 := by
            have h2 : ((1000 : Int) ^ k) ≤ 1000000000 := by
              have hk3 : k = 0 ∨ k = 1 ∨ k = 2 ∨ k = 3 := by omega
              rcases hk3 with rfl | rfl | rfl | rfl <;> decide
            omega
          have HN := Lib.hid (posN_take hx)
          have HP := Lib.hid (posP_take hx)
          generalize posN (o.take k) = cn at *
          generalize posP (o.take k) = pp at *
          have hmul : 0 ≤ pp * x ∧ pp * x ≤ 1000000000000 := ⟨Int.mul_nonneg (by omega) hx1.1, Int.le_trans (Int.mul_le_mul hpb2 hx1.2 hx1.1 (by omega)) (by omega)⟩
          have l2 : (k : Int) < (n : Int) := by omega
          clear hx hlen
          by_cases hpos2 : 0 < x
          · rw [if_pos hpos2] at HN HP
            go_wp2_with fail
            go_round
            case rel => exact ⟨k + 1, by omega, by go_num, by rw [HN.out], by rw [HP.out]⟩
            case measure => simp [intOf]; omega
          · rw [if_neg hpos2] at HN HP
            go_wp2_with fail
            go_round
            case rel => exact ⟨k + 1, by omega, by go_num, by rw [HN.out, Int.add_zero], by rw [HP.out, Int.mul_one]⟩
            case measure => simp [intOf]; omega
        · obtain rfl : k = n := by omega
          have eT : o.take k = o := List.take_of_length_le (by have := H6.out.2.2.1; omega)
          rw [eT] at hnb hpb ⊢
          have h5 : ((1000 : Int) ^ k) ≤ 1000000000000 := by
            have hk3 : k = 0 ∨ k = 1 ∨ k = 2 ∨ k = 3 ∨ k = 4 := by omega
            rcases hk3 with rfl | rfl | rfl | rfl | rfl <;> decide
          have hpb2 : posP o ≤ 1000000000000 := Int.le_trans hpb.2 h5
          have hcn : posN o = posN (ownV V (dz k m j) k) := by rw [H6.out.2.2.2.1, HS.out.2.1]
          have hpp : posP o = posP (ownV V (dz k m j) k) := by rw [H6.out.2.2.2.1, HS.out.2.1]
          have hIn : Ints w6 A' (dz k m j) := by rw [← HS.out.2.1]; exact HS.out.1.below H6.out.2.2.2.2
          have HC := Lib.hid (And.intro hcn (And.intro hpp (And.intro hIn (HR.out.2.trans (H6.out.2.2.2.2.mono hwp)))))
          generalize posN o = cn at *
          generalize posP o = pp at *
          clear hcn hpp hIn eT h5 hlen
          by_cases hc1' : mo < cn
          · have HF : Hid (NSt V k m (j + 1) A' m c' cn pp w6) := Lib.hid (HR.out.1.on HC.out.1 HC.out.2.1 (.inl hc1') HC.out.2.2.1)
            have d1 : decide (mo < cn) = true := decide_eq_true hc1'
            go_wp2_with fail
            go_roundw
            case rel => exact ⟨j + 1, A', m, c', cn, pp, by omega, by go_num, rfl, rfl, rfl, HF.out, HC.out.2.2.2⟩
            case measure => simp [intOf]; omega
          · have d1 : decide (mo < cn) = false := decide_eq_false hc1'
            by_cases hc2' : cn = mo
            · subst hc2'
              have d2 : (cn == cn) = true := by simp
              by_cases hc3' : po < pp
              · have HF : Hid (NSt V k m (j + 1) A' m c' cn pp w6) := Lib.hid (HR.out.1.on HC.out.1 HC.out.2.1 (.inr ⟨rfl, hc3'⟩) HC.out.2.2.1)
                have d3 : decide (po < pp) = true := decide_eq_true hc3'
                go_wp2_with fail
                go_roundw
                case rel => exact ⟨j + 1, A', m, c', cn, pp, by omega, by go_num, rfl, rfl, rfl, HF.out, HC.out.2.2.2⟩
                case measure => simp [intOf]; omega
              · have HF : Hid (NSt V k m (j + 1) B bl bc cn po w6) := Lib.hid (HR.out.1.off HC.out.1 HC.out.2.1 (by omega) H6.out.2.2.2.2)
                have d3 : decide (po < pp) = false := decide_eq_false hc3'
                go_wp2_with fail
                go_roundw
                case rel => exact ⟨j + 1, B, bl, bc, cn, po, by omega, by go_num, rfl, rfl, rfl, HF.out, HC.out.2.2.2⟩
                case measure => simp [intOf]; omega
            · have HF : Hid (NSt V k m (j + 1) B bl bc mo po w6) := Lib.hid (HR.out.1.off HC.out.1 HC.out.2.1 (by omega) H6.out.2.2.2.2)
              have d2 : (cn == mo) = false := by rw [beq_eq_false_iff_ne]; exact hc2'
              go_wp2_with fail
              go_roundw
              case rel => exact ⟨j + 1, B, bl, bc, mo, po, by omega, by go_num, rfl, rfl, rfl, HF.out, HC.out.2.2.2⟩
              case measure => simp [intOf]; omega
    · obtain rfl : j = ql := by omega
      have hqe : j = n ^ m := by rw [H4.out.2.2.2, H.out.2.2.2.2.2]
      have HB := Lib.hid (H4.out.2.2.1.trans (HR.out.2.mono hw4))
      obtain ⟨rfl, hmo, hpo, hI⟩ : bl = m ∧ mo = posN (ownV V (dz n m (bst (fun t => nashS V (dz n m t) n) j)) n) ∧ po = posP (ownV V (dz n m (bst (fun t => nashS V (dz n m t) n) j)) n) ∧ Ints wp B (dz n m (bst (fun t => nashS V (dz n m t) n) j)) := by
        rcases HR.out.1 with ⟨h, _⟩ | ⟨_, h⟩
        · omega
        · exact h
      have HF : Hid (po = posP (ownV V (dz n bl (nashB V)) n) ∧ Ints wp B (dz n bl (nashB V))) := Lib.hid (by rw [H.out.2.2.2.2.1, ← hqe]; exact ⟨hpo, hI⟩)
      clear hqe hmo hpo hI
      go_wp2_with fail
      go_ret2
      exact ⟨B, bc, by rw [← HF.out.1]; rfl, HF.out.2, HB.out⟩

/- Contract: Least of the reference (package corrodyref01). -/

/-- The score of Least. -/
def leastS (V : List (List Int)) (d : List Int) (n : Nat) : List Int := sortTo (ownV V d n) n
theorem leastS_length (V : List (List Int)) (d : List Int) (n : Nat) : (leastS V d n).length = n := by unfold leastS; rw [sortTo_length, ownV_length]

/-- The best so far, after j divisions. -/
def LSt (V : List (List Int)) (n m j : Nat) (B : Option Addr) (bl bc : Nat) (C : Option Addr) (cl cc : Nat) (w : World) : Prop :=
  (j = 0 ∧ bl = 0 ∧ B = none ∧ bc = 0 ∧ cl = 0 ∧ C = none ∧ cc = 0) ∨
  (0 < j ∧ bl = m ∧ cl = n ∧ B.isSome ∧ Ints w B (dz n m (bst (fun t => leastS V (dz n m t) n) j)) ∧ Ints w C (leastS V (dz n m (bst (fun t => leastS V (dz n m t) n) j)) n))
theorem LSt.on {V : List (List Int)} {n m j : Nat} {B B' : Option Addr} {bl bc bc' : Nat} {C C' : Option Addr} {cl cc cc' : Nat} {w w' : World} (_h : LSt V n m j B bl bc C cl cc w)
    (hc : 0 < j → 0 < cmpL (leastS V (dz n m j) n) (leastS V (dz n m (bst (fun t => leastS V (dz n m t) n) j)) n)) (hB : B'.isSome) (hI : Ints w' B' (dz n m j)) (hI2 : Ints w' C' (leastS V (dz n m j) n)) : LSt V n m (j + 1) B' m bc' C' n cc' w' := by
  have e : bst (fun t => leastS V (dz n m t) n) (j + 1) = j := bst_on hc
  exact .inr ⟨by omega, rfl, rfl, hB, by rw [e]; exact hI, by rw [e]; exact hI2⟩
theorem LSt.off {V : List (List Int)} {n m j : Nat} {B : Option Addr} {bl bc : Nat} {C : Option Addr} {cl cc : Nat} {w w' : World} (h : LSt V n m j B bl bc C cl cc w) (h0 : 0 < j)
    (hc : ¬ 0 < cmpL (leastS V (dz n m j) n) (leastS V (dz n m (bst (fun t => leastS V (dz n m t) n) j)) n)) (hb : Below w.heap.size w w') : LSt V n m (j + 1) B bl bc C cl cc w' := by
  rcases h with ⟨h, _⟩ | ⟨hj, hbl, hcl, hB, hI, hI2⟩
  · omega
  · have e : bst (fun t => leastS V (dz n m t) n) (j + 1) = bst (fun t => leastS V (dz n m t) n) j := bst_off hj hc
    exact .inr ⟨by omega, hbl, hcl, hB, by rw [e]; exact hI.below hb, by rw [e]; exact hI2.below hb⟩

set_option maxRecDepth 100000 in
set_option maxHeartbeats 3200000 in
theorem r1least_any (A : Option Addr) (n cap m : Nat) (V : List (List Int)) (w : World) (hl : V.length = n) (hn : 1 ≤ n ∧ n ≤ 4) (hm : m = (rowV V 0).length) (hm7 : 1 ≤ m ∧ m ≤ 7)
    (hr : ∀ i, i < n → (rowV V i).length = m ∧ ∀ x ∈ rowV V i, 0 ≤ x ∧ x ≤ 100) (hV : Mat w A V) :
    Calls Try.prog 46 #[.slice A n cap] w fun e w' => ∃ B bc, e = .returned (.slice B m bc) ∧ Ints w' B (dz n m (leastB V)) ∧ Below w.heap.size w w' := by
  have qT : ∀ (w : World) (a : Option Addr) (n c n' c' : Nat), (binOp .eql 23 (.slice a n c) (.slice none n' c')).run Try.prog w = .ok (.bool a.isNone) w := fun w a n c n' c' => Lib.run_eql_slice_nil w _ _ a n c n' c' Try.underlying23
  obtain ⟨ad, rfl, had, hc⟩ := hV.some_ (by omega)
  obtain ⟨A0, c0, g1, g2, g3, g4⟩ := hc 0 _ (List.getElem?_eq_getElem (by omega))
  have e : (V[0]'(by omega)).length = m := by rw [hm, rowV_get (List.getElem?_eq_getElem (by omega))]
  rw [e] at g1 g2
  have g1' : w.cell? ad = some (.slice A0 m c0) := g1
  have l0 : (0 : Int) < (n : Int) := by omega
  have hps := divs_small hn.2 hm7.2
  have hdl := divs_length n m
  rw [← hdl] at hps
  have hpos : 0 < (divs n m).length := by rw [hdl]; exact Nat.pow_pos (by omega)
  obtain ⟨L, hL⟩ : ∃ L, L = divs n m := ⟨_, rfl⟩
  rw [← hL] at hps hpos hdl
  have hnb : leastB V = bst (fun t => leastS V (dz n m t) n) (n ^ m) := by unfold leastB leastS; rw [hl, ← hm]
  have H := Lib.hid (And.intro hl (And.intro hr (And.intro hV (And.intro hL (And.intro hnb hdl)))))
  clear hl hm hr hV hc g1 g4 e hL hnb hdl
  go_enter Try.func46, Try.ntmps46
  go_wp2_with fail
  refine (divisions_any n hn m _ hm7.2).mono ?_
  rw [← H.out.2.2.2.1]
  rintro e w4 ⟨A4, c4, vs4, rfl, hown4, hrows4, hnz4, hbl4⟩
  obtain ⟨ql, hql⟩ : ∃ ql, ql = L.length := ⟨_, rfl⟩
  have hat4 : At w4 A4 vs4 := At.of_own hown4
  rw [← hql] at hps hpos ⊢
  have H4 := Lib.hid (And.intro hat4 (And.intro hrows4 (And.intro hbl4 hql)))
  have HNZ := Lib.hid hnz4
  have hw4 := hbl4.size
  clear hown4 hrows4 hbl4 hat4 hql hnz4
  go_wp2_with fail
  go_loopw [3, 4, 16] (fun bv cv jv wr => ∃ (j : Nat) (B : Option Addr) (bl bc : Nat) (C : Option Addr) (cl cc : Nat), j ≤ ql ∧ jv = .int .i64 j ∧ bv = .slice B bl bc ∧ cv = .slice C cl cc ∧ LSt V n m j B bl bc C cl cc wr ∧ Below w4.heap.size w4 wr) (fun _ _ jv _ => ql - (intOf jv).toNat)
  case atStart => exact ⟨0, none, 0, 0, none, 0, 0, Nat.zero_le _, rfl, rfl, rfl, .inl ⟨rfl, rfl, rfl, rfl, rfl, rfl, rfl⟩, Below.refl _ _⟩
  case round =>
    obtain ⟨j, B, bl, bc, C, cl, cc, hj, rfl, rfl, rfl, hst, hbl⟩ := hrel
    obtain ⟨wp, rfl⟩ : ∃ wp : World, wp = wr := ⟨_, rfl⟩
    have HR := Lib.hid (And.intro hst hbl)
    have hwp := hbl.size
    clear hst hbl
    by_cases hlj : j < ql
    · obtain ⟨os, hos⟩ : ∃ os, L[j]? = some os := ⟨_, List.getElem?_eq_getElem (by rw [← H4.out.2.2.2]; exact hlj)⟩
      have hosd : os = dz n m j := divs_get (by omega) (by rw [← H.out.2.2.2.1]; exact hos)
      have hosl : os.length = m := by rw [hosd]; exact dz_length _ _ _
      obtain ⟨v, hv, A', c', rfl, hc1, hc2, hI, _⟩ := H4.out.2.1.2 j os hos
      rw [hosl] at hv hc1
      obtain ⟨ad4, rfl, hcell⟩ := H4.out.1 j _ hv
      have hA' : A'.isSome := by
        cases A' with
        | some _ => rfl
        | none =>
          have := HNZ.out _ (List.mem_of_getElem? hv) m c' rfl
          omega
      have hcell2 := (HR.out.2.cell (lt_of_cell hcell)).trans hcell
      have l1 : (j : Int) < (ql : Int) := by omega
      have HS := Lib.hid (And.intro (hI.below HR.out.2) (And.intro hosd (And.intro hosl (And.intro (H4.out.2.2.1.trans (HR.out.2.mono hw4)) hA'))))
      clear hI hos hosl hv hcell hosd hA'
      go_wp2_with fail
      refine (r1own_any (some ad) n cap A' m c' V os _ H.out.1 (by omega) HS.out.2.2.1 (by omega) H.out.2.1 (H.out.2.2.1.below HS.out.2.2.2.1) HS.out.1).mono ?_
      rintro e w6 ⟨A6, c6, rfl, hown6, hb6⟩
      have hI6 : Ints w6 A6 (ownV V os n) := At.of_own hown6
      have H6 := Lib.hid (And.intro hI6 hb6)
      have hw6 := hb6.size
      clear hown6 hI6 hb6
      go_wp2_with fail
      refine (rising_any A6 n c6 (ownV V os n) w6 (ownV_length _ _ _) hn.2 H6.out.1).mono ?_
      rintro e w7 ⟨A7, c7, rfl, hI7, hb7⟩
      rw [risTo_eq (ownV_length _ _ _)] at hI7
      have hI7' : Ints w7 A7 (leastS V (dz n m j) n) := by rw [← HS.out.2.1]; exact hI7
      have hIn : Ints w7 A' (dz n m j) := by rw [← HS.out.2.1]; exact (HS.out.1.below H6.out.2).below hb7
      have hb67 := H6.out.2.trans (hb7.mono hw6)
      have H7 := Lib.hid (And.intro hI7' (And.intro hIn (And.intro hb67 (HR.out.2.trans (hb67.mono hwp)))))
      clear hI7 hI7' hIn hb67 hb7
      by_cases hj0 : j = 0
      · obtain ⟨rfl, rfl, rfl, rfl, rfl, rfl⟩ : bl = 0 ∧ B = none ∧ bc = 0 ∧ cl = 0 ∧ C = none ∧ cc = 0 := by
          rcases HR.out.1 with ⟨_, h⟩ | ⟨h, _⟩
          · exact h
          · omega
        have HF : Hid (LSt V n m (j + 1) A' m c' A7 n c7 w7) := Lib.hid (HR.out.1.on (fun h => by omega) HS.out.2.2.2.2 H7.out.2.1 H7.out.1)
        go_wp2_with fail
        go_roundw
        case rel => exact ⟨j + 1, A', m, c', A7, n, c7, by omega, by go_num, rfl, rfl, HF.out, H7.out.2.2.2⟩
        case measure => simp [intOf]; omega
      · obtain ⟨rfl, rfl, hBs, hIB, hIC⟩ : bl = m ∧ cl = n ∧ B.isSome ∧ Ints wp B (dz n m (bst (fun t => leastS V (dz n m t) n) j)) ∧ Ints wp C (leastS V (dz n m (bst (fun t => leastS V (dz n m t) n) j)) n) := by
          rcases HR.out.1 with ⟨h, _⟩ | ⟨_, h⟩
          · omega
          · exact h
        obtain ⟨b0, rfl⟩ : ∃ b0, B = some b0 := Option.isSome_iff_exists.1 hBs
        have HC := Lib.hid (And.intro (hIC.below H7.out.2.2.1) (befL_iff (a := leastS V (dz cl bl (bst (fun t => leastS V (dz cl bl t) cl) j)) cl) (b := leastS V (dz cl bl j) cl) (by rw [leastS_length, leastS_length])))
        clear hIB hIC hBs
        go_wp2_with fail
        refine (before_any C A7 cl cc c7 _ _ w7 (leastS_length V (dz cl bl (bst (fun t => leastS V (dz cl bl t) cl) j)) cl) (leastS_length V (dz cl bl j) cl) (by omega) HC.out.1 H7.out.1).mono ?_
        rintro e w8 ⟨rfl, rfl⟩
        cases hbf : befL (leastS V (dz cl bl (bst (fun t => leastS V (dz cl bl t) cl) j)) cl) (leastS V (dz cl bl j) cl)
        · have HF : Hid (LSt V cl bl (j + 1) (some b0) bl bc C cl cc w7) := Lib.hid (HR.out.1.off (by omega) (fun h => by have := HC.out.2.2 h; rw [hbf] at this; cases this) H7.out.2.2.1)
          clear hbf
          go_wp2_with fail
          go_roundw
          case rel => exact ⟨j + 1, some b0, bl, bc, C, cl, cc, by omega, by go_num, rfl, rfl, HF.out, H7.out.2.2.2⟩
          case measure => simp [intOf]; omega
        · have HF : Hid (LSt V cl bl (j + 1) A' bl c' A7 cl c7 w7) := Lib.hid (HR.out.1.on (fun _ => HC.out.2.1 hbf) HS.out.2.2.2.2 H7.out.2.1 H7.out.1)
          clear hbf
          go_wp2_with fail
          go_roundw
          case rel => exact ⟨j + 1, A', bl, c', A7, cl, c7, by omega, by go_num, rfl, rfl, HF.out, H7.out.2.2.2⟩
          case measure => simp [intOf]; omega
    · obtain rfl : j = ql := by omega
      have hqe : j = n ^ m := by rw [H4.out.2.2.2, H.out.2.2.2.2.2]
      have HB := Lib.hid (H4.out.2.2.1.trans (HR.out.2.mono hw4))
      obtain ⟨rfl, rfl, hBs, hI⟩ : bl = m ∧ cl = n ∧ B.isSome ∧ Ints wp B (dz n m (bst (fun t => leastS V (dz n m t) n) j)) := by
        rcases HR.out.1 with ⟨h, _⟩ | ⟨_, h1, h2, h3, h4, _⟩
        · omega
        · exact ⟨h1, h2, h3, h4⟩
      have HF : Hid (Ints wp B (dz cl bl (leastB V))) := Lib.hid (by rw [H.out.2.2.2.2.1, ← hqe]; exact hI)
      clear hqe hI hBs
      go_wp2_with fail
      go_ret
      exact ⟨B, bc, rfl, HF.out, HB.out⟩

/- The walk of SplitBest: Nash and Least against the reference. -/

set_option maxRecDepth 100000 in
set_option maxHeartbeats 3200000 in
theorem law_best (A : Option Addr) (n cap : Nat) (V : List (List Int)) (w : World)
    (hl : V.length = n) (_hc : n ≤ cap) (hm : cap ≤ 9223372036854775807) (hV : Mat w A V) (_hx : ∀ r ∈ V, ∀ x ∈ r, -9223372036854775808 ≤ x ∧ x ≤ 9223372036854775807) :
    Calls Try.prog 15 #[.slice A n cap] w fun e w' => e = .returned (.bool true) ∧ Below w.heap.size w w' := by
  have hn9 : n ≤ 9223372036854775807 := by omega
  obtain ⟨m, hmm⟩ : ∃ m, m = (rowV V 0).length := ⟨_, rfl⟩
  have H := Lib.hid (And.intro hl (And.intro hV hmm))
  clear hl hV hmm _hx
  go_enter Try.func15, Try.ntmps15
  go_wp2_with fail
  refine (few2_any A n cap V _ H.out.1 hn9 H.out.2.1).mono ?_
  rintro e w1 ⟨A1, q1, c1, rfl, hq, hq6, hqc, hc1, hM, hb⟩
  have H1 := Lib.hid (And.intro hq (And.intro hM hb))
  clear hq hM hb
  go_wp2_with fail
  refine (nash2_any A1 q1 c1 n m V w1 H1.out.1 hq6 H.out.1 H.out.2.2 H1.out.2.1).mono ?_
  rintro e w2 ⟨NA, nk, nc, pv, gv, rfl, hN, hb⟩
  have H2 := Lib.hid (And.intro hN (H1.out.2.2.trans (hb.mono H1.out.2.2.size)))
  clear hN hb
  go_wp2_with fail
  refine (few2_any A n cap V _ H.out.1 hn9 (H.out.2.1.below H2.out.2)).mono ?_
  rintro e w3 ⟨A3, q3, c3, rfl, hq, hq63, hqc3, hc3, hM, hb⟩
  have H3 := Lib.hid (And.intro hq (And.intro hM (And.intro (H2.out.2.trans (hb.mono H2.out.2.size)) hb)))
  clear hq hM hb
  go_wp2_with fail
  refine (least2_any A3 q3 c3 n m V w3 H3.out.1 hq63 H.out.1 H.out.2.2 H3.out.2.1).mono ?_
  rintro e w4 ⟨LA, lk, lc, fv, rfl, hN, hb⟩
  have H4 := Lib.hid (And.intro hN (And.intro (H3.out.2.2.1.trans (hb.mono H3.out.2.2.1.size)) (H3.out.2.2.2.trans (hb.mono H3.out.2.2.2.size))))
  clear hN hb
  obtain ⟨gd, hgd⟩ : ∃ gd, gd = valV V := ⟨_, rfl⟩
  have HG := Lib.hid hgd
  go_wp2_with fail
  refine (r1valid_any A n cap V w4 H.out.1 hn9 (H.out.2.1.below H4.out.2.1)).mono ?_
  rintro e w5 ⟨rfl, rfl⟩
  rw [← hgd]
  cases gd
  · obtain ⟨rfl, rfl, rfl⟩ : nk = 0 ∧ pv = 0 ∧ gv = 2 := by
      rcases H2.out.1 with ⟨_, _, _, h1, h2, h⟩ | ⟨h, _⟩
      · exact ⟨h1, h2, h⟩
      · rw [h] at hgd; cases hgd
    obtain ⟨rfl, rfl⟩ : lk = 0 ∧ fv = 2 := by
      rcases H4.out.1 with ⟨_, _, _, h1, h⟩ | ⟨h, _⟩
      · exact ⟨h1, h⟩
      · rw [h] at hgd; cases hgd
    clear hgd
    go_wp2_with fail
    refine (awake2_any w w4 H4.out.2.1).mono ?_
    rintro e w7 ⟨rfl, hb7⟩
    have H7 := Lib.hid hb7
    clear hb7
    go_wp2_with fail
    go_ret
    exact ⟨rfl, H7.out⟩
  · obtain ⟨rfl, rfl, hpv, _, _, hNI⟩ : gv = 0 ∧ nk = m ∧ pv = posP (ownV V (dz n m (nashB V)) n) ∧ nk ≤ nc ∧ nc ≤ 9223372036854775807 ∧ Ints w2 NA (dz n m (nashB V)) := by
      rcases H2.out.1 with ⟨h, _⟩ | ⟨_, h⟩
      · rw [← hgd] at h; cases h
      · exact h
    obtain ⟨rfl, rfl, _, _, hLI⟩ : fv = 0 ∧ lk = nk ∧ lk ≤ lc ∧ lc ≤ 9223372036854775807 ∧ Ints w4 LA (dz n nk (leastB V)) := by
      rcases H4.out.1 with ⟨h, _⟩ | ⟨_, h⟩
      · rw [← hgd] at h; cases h
      · exact h
    have hv : valV V = true := hgd.symm
    have hv1 := valV_iff.1 hv
    have hn4 : 1 ≤ n ∧ n ≤ 4 := by rw [← H.out.1]; exact hv1.1
    have hm7 : 1 ≤ lk ∧ lk ≤ 7 := by rw [H.out.2.2]; exact hv1.2.1
    have hrows := valV_rows hv H.out.2.2
    rw [H.out.1] at hrows
    have HV := Lib.hid (And.intro hpv (And.intro hrows (And.intro (hNI.below H4.out.2.2) hLI)))
    clear hgd hv hv1 hrows hNI hLI hpv
    go_wp2_with fail
    refine (r1nash_any A n cap lk V w4 H.out.1 hn4 H.out.2.2 hm7 HV.out.2.1 (H.out.2.1.below H4.out.2.1)).mono ?_
    rintro e w5 ⟨RA, rc, rfl, hRI, hb5⟩
    rw [← HV.out.1]
    have H5 := Lib.hid (And.intro hRI (And.intro (HV.out.2.2.1.below hb5) (And.intro (HV.out.2.2.2.below hb5) (H4.out.2.1.trans (hb5.mono H4.out.2.1.size)))))
    clear hRI hb5
    go_wp2_with fail
    refine (equal_any NA RA lk lk nc rc (dz n lk (nashB V)) (dz n lk (nashB V)) _ (dz_length _ _ _) (dz_length _ _ _) (by omega) H5.out.2.1 H5.out.1).mono ?_
    rintro e w6 ⟨rfl, k6, rfl⟩
    have e1 : eqB (dz n lk (nashB V)) (dz n lk (nashB V)) = true := by unfold eqB; exact decide_eq_true rfl
    rw [e1]
    have e2 : (pv == pv) = true := by simp
    have H6 := Lib.hid (And.intro (H5.out.2.2.1.below (below_drewN (Below.refl _ _) k6)) (below_drewN H5.out.2.2.2 k6))
    clear e1
    go_wp2_with fail
    refine (r1least_any A n cap lk V (w5.drewN k6) H.out.1 hn4 H.out.2.2 hm7 HV.out.2.1 (H.out.2.1.below H6.out.2)).mono ?_
    rintro e w7 ⟨SA, sc, rfl, hSI, hb7⟩
    have H7 := Lib.hid (And.intro hSI (And.intro (H6.out.1.below hb7) (H6.out.2.trans (hb7.mono H6.out.2.size))))
    clear hSI hb7
    go_wp2_with fail
    refine (equal_any LA SA lk lk lc sc (dz n lk (leastB V)) (dz n lk (leastB V)) _ (dz_length _ _ _) (dz_length _ _ _) (by omega) H7.out.2.1 H7.out.1).mono ?_
    rintro e w8 ⟨rfl, k8, rfl⟩
    have e1 : eqB (dz n lk (leastB V)) (dz n lk (leastB V)) = true := by unfold eqB; exact decide_eq_true rfl
    rw [e1]
    have H8 := Lib.hid (below_drewN H7.out.2.2 k8)
    clear e1
    go_wp2_with fail
    refine (awake2_any w _ H8.out).mono ?_
    rintro e w9 ⟨rfl, hb9⟩
    have H9 := Lib.hid hb9
    clear hb9
    go_wp2_with fail
    go_ret
    exact ⟨rfl, H9.out⟩
end Go.Proofs.Ytkljambjdiblkaa
