/- Laws and contracts that the proof of GamesSerial uses, part 6. -/
import Derived.Test.YtbidboagaoifaaaGamesSerialM5
import Derived.Test.YtbidboagaoifaaaGamesSerialM1
import Derived.Test.YtbidboagaoifaaaGamesSerialM2
namespace Go.Proofs.Ytbidboagaoifaaa
open Go.RowKit

/- Insertion sort: sorted, and a permutation. Plain Lean. -/

theorem swap_perm : ∀ (j : Nat) (l : List Int), j + 1 < l.length → ((l.set (j + 1) (l.getD j 0)).set j (l.getD (j + 1) 0)).Perm l
  | 0, a :: b :: t, _ => by
    show (b :: a :: t).Perm (a :: b :: t)
    exact List.Perm.swap a b t
  | 0, [_], h => by simp at h
  | 0, [], h => by simp at h
  | j + 1, [], h => by simp at h
  | j + 1, a :: l, h => by
    have := swap_perm j l (by simpa using h)
    show (a :: ((l.set (j + 1) (l.getD j 0)).set j (l.getD (j + 1) 0))).Perm (a :: l)
    exact this.cons a
theorem sink_perm (j : Nat) : ∀ l : List Int, j < l.length → (sink j l).Perm l := by
  induction j with
  | zero => intro l _; exact List.Perm.refl _
  | succ j ih =>
    intro l h
    simp only [sink]
    split
    · exact (ih _ (by simp; omega)).trans (swap_perm j l h)
    · exact List.Perm.refl _
theorem sortTo_perm (l : List Int) (i : Nat) (hi : i ≤ l.length) : (sortTo l i).Perm l := by
  induction i with
  | zero => exact List.Perm.refl _
  | succ i ih =>
    simp only [sortTo]
    exact (sink_perm i _ (by rw [sortTo_length]; omega)).trans (ih (by omega))
theorem sink_sorted (i j : Nat) : ∀ l : List Int, j ≤ i → i < l.length → (∀ a b, a < b → b ≤ i → b ≠ j → l.getD a 0 ≤ l.getD b 0) → ∀ a b, a < b → b ≤ i → (sink j l).getD a 0 ≤ (sink j l).getD b 0 := by
  induction j with
  | zero => intro l _ _ h a b hab hb; exact h a b hab hb (by omega)
  | succ j ih =>
    intro l hj hi h
    simp only [sink]
    by_cases hlt : l.getD (j + 1) 0 < l.getD j 0
    · rw [if_pos hlt]
      have hg : ∀ k, ((l.set (j + 1) (l.getD j 0)).set j (l.getD (j + 1) 0)).getD k 0 = if k = j then l.getD (j + 1) 0 else if k = j + 1 then l.getD j 0 else l.getD k 0 := by
        intro k
        rw [List.getD_eq_getElem?_getD, List.getElem?_set]
        by_cases e : j = k
        · rw [if_pos e, if_pos e.symm, if_pos (by simp; omega)]; rfl
        · rw [if_neg e, if_neg (fun h => e h.symm), List.getElem?_set]
          by_cases e2 : j + 1 = k
          · rw [if_pos e2, if_pos e2.symm, if_pos (by omega)]; rfl
          · rw [if_neg e2, if_neg (fun h => e2 h.symm), ← List.getD_eq_getElem?_getD]
      refine ih _ (by omega) (by simp; omega) fun a b hab hb hbj => ?_
      rw [hg, hg, if_neg hbj]
      by_cases e1 : b = j + 1
      · rw [if_pos e1]
        by_cases e2 : a = j
        · rw [if_pos e2]; omega
        · rw [if_neg e2, if_neg (by omega)]
          exact h a j (by omega) (by omega) (by omega)
      · rw [if_neg e1]
        by_cases e2 : a = j
        · rw [if_pos e2]; exact h (j + 1) b (by omega) hb e1
        · rw [if_neg e2]
          by_cases e3 : a = j + 1
          · rw [if_pos e3]; exact h j b (by omega) hb e1
          · rw [if_neg e3]; exact h a b hab hb e1
    · rw [if_neg hlt]
      intro a b hab hb
      by_cases e : b = j + 1
      · subst e
        by_cases e2 : a = j
        · subst e2; omega
        · have := h a j (by omega) (by omega) (by omega)
          omega
      · exact h a b hab hb e
theorem sortTo_sorted (l : List Int) (i : Nat) (hi : i ≤ l.length) : ∀ a b, a < b → b < i → (sortTo l i).getD a 0 ≤ (sortTo l i).getD b 0 := by
  induction i with
  | zero => intro a b _ hb; omega
  | succ i ih =>
    intro a b hab hb
    simp only [sortTo]
    exact sink_sorted i i (sortTo l i) (Nat.le_refl _) (by rw [sortTo_length]; omega) (fun a b hab hb hne => ih (by omega) a b hab (by omega)) a b hab (by omega)

/- The costs of a road, and equal parts of each stretch: plain Lean. -/

def lenB (l : List Int) : Bool := (decide (1 ≤ l.length) && decide (l.length ≤ 4)) && l.all inR
theorem lenB_iff {l : List Int} : lenB l = true ↔ (1 ≤ l.length ∧ l.length ≤ 4) ∧ ∀ x ∈ l, 0 ≤ x ∧ x ≤ 1000 := by simp [lenB, inR]
theorem getD_len {l : List Int} (h : lenB l = true) (i : Nat) : 0 ≤ l.getD i 0 ∧ l.getD i 0 ≤ 1000 := by
  have h2 := (lenB_iff.1 h).2
  rw [List.getD_eq_getElem?_getD]
  cases e : l[i]? with
  | none => simp
  | some x => exact h2 x (List.mem_of_getElem? e)

/-- The costs of a set, of the first k players. -/
def maxTo (l : List Int) (s : Nat) : Nat → Int
  | 0 => 0
  | i + 1 => max (maxTo l s i) (if s.testBit i then l.getD i 0 else 0)
def roadL (l : List Int) : List Int := (List.range (2 ^ l.length)).map fun s => maxTo l s l.length
theorem roadL_length (l : List Int) : (roadL l).length = 2 ^ l.length := by simp [roadL]
theorem roadL_get {l : List Int} {s : Nat} (h : s < 2 ^ l.length) : (roadL l).getD s 0 = maxTo l s l.length := by
  unfold roadL
  rw [List.getD_eq_getElem?_getD, List.getElem?_map, List.getElem?_range h]
  rfl
theorem maxTo_bd {l : List Int} (h : lenB l = true) (s k : Nat) : 0 ≤ maxTo l s k ∧ maxTo l s k ≤ 1000 := by
  induction k with
  | zero => simp [maxTo]
  | succ k ih => have := getD_len h k; simp only [maxTo]; split <;> omega
theorem maxTo_zero (l : List Int) (k : Nat) : maxTo l 0 k = 0 := by
  induction k with
  | zero => rfl
  | succ k ih => simp [maxTo, ih]
theorem road_valid {l : List Int} (h : lenB l = true) : valC (roadL l) = true := by
  have h1 := (lenB_iff.1 h).1
  refine valC_iff.2 ⟨?_, ?_, fun x hx => ?_⟩
  · rw [roadL_length]
    have : l.length = 1 ∨ l.length = 2 ∨ l.length = 3 ∨ l.length = 4 := by omega
    rcases this with e | e | e | e <;> simp [e]
  · have h0 : 0 < 2 ^ l.length := Nat.two_pow_pos _
    rw [List.getD_eq_getElem?_getD, List.getElem?_eq_getElem (by rw [roadL_length]; exact h0)]
    have := roadL_get h0
    rw [List.getD_eq_getElem?_getD, List.getElem?_eq_getElem (by rw [roadL_length]; exact h0), maxTo_zero] at this
    exact this
  · obtain ⟨s, _, rfl⟩ := List.mem_map.1 hx
    exact maxTo_bd h _ _
theorem road_plr {l : List Int} (h : lenB l = true) : plr (roadL l) = l.length := by
  have h1 := (valC_pow (road_valid h)).1
  rw [roadL_length] at h1
  exact ((Nat.pow_right_inj (by omega)).1 h1).symm
/-- Concave. -/
theorem max_or {l : List Int} (a b k : Nat) (h : ∀ i, 0 ≤ l.getD i 0) : maxTo l (a ||| b) k = max (maxTo l a k) (maxTo l b k) := by
  induction k with
  | zero => rfl
  | succ k ih =>
    have hk := h k
    have h0 : ∀ c, 0 ≤ maxTo l c k := by
      intro c
      clear ih
      induction k with
      | zero => exact Int.le_refl 0
      | succ j ih2 => simp only [maxTo]; have := ih2 (h j); omega
    have ha := h0 a
    have hb := h0 b
    simp only [maxTo, ih, Nat.testBit_or]
    cases a.testBit k <;> cases b.testBit k <;> simp <;> omega
theorem max_and {l : List Int} (a b k : Nat) (h : ∀ i, 0 ≤ l.getD i 0) : maxTo l (a &&& b) k ≤ maxTo l a k ∧ maxTo l (a &&& b) k ≤ maxTo l b k := by
  induction k with
  | zero => exact ⟨Int.le_refl _, Int.le_refl _⟩
  | succ k ih =>
    have hk := h k
    simp only [maxTo, Nat.testBit_and]
    generalize l.getD k 0 = z at *
    cases a.testBit k <;> cases b.testBit k <;> simp <;> omega
theorem road_conc {l : List Int} (h : lenB l = true) : concA (roadL l) = (0, 0, 4) := by
  have hg := fun i => (getD_len h i).1
  unfold concA
  rw [if_pos (road_valid h)]
  rcases concL_cases (roadL l) with ⟨a, b, _, ha, hb, hx⟩ | ⟨e, _⟩
  · exfalso
    rw [roadL_length] at ha hb
    unfold badB at hx
    rw [roadL_get ha, roadL_get hb, roadL_get (Nat.or_lt_two_pow ha hb), roadL_get (Nat.and_lt_two_pow _ hb)] at hx
    have h1 := max_or a b l.length hg
    have h2 := max_and a b l.length hg
    have := of_decide_eq_true hx
    omega
  · exact e

/-- How many drive beyond u. -/
def cnt (l : List Int) (u : Nat) : Nat := l.countP fun x => decide ((u : Int) < x)
/-- Twelve times what those pay who drive to t. -/
def serI (l : List Int) : Nat → Int
  | 0 => 0
  | t + 1 => serI l t + 12 / (cnt l t : Int)
theorem serI_bd (l : List Int) (t : Nat) : 0 ≤ serI l t ∧ serI l t ≤ 12 * t := by
  induction t with
  | zero => simp [serI]
  | succ t ih =>
    simp only [serI]
    have h1 : (0 : Int) ≤ 12 / (cnt l t : Int) := Int.ediv_nonneg (by omega) (by omega)
    have h2 : (12 : Int) / (cnt l t : Int) ≤ 12 := Int.ediv_le_self _ (by omega)
    omega
theorem serI_step {l : List Int} {a b m : Nat} (hab : a ≤ b) (h : ∀ u, a ≤ u → u < b → cnt l u = m) : serI l b = serI l a + ((b : Int) - (a : Int)) * (12 / (m : Int)) := by
  obtain ⟨d, rfl⟩ := Nat.exists_eq_add_of_le hab
  clear hab
  induction d with
  | zero => simp
  | succ d ih =>
    rw [show a + (d + 1) = (a + d) + 1 from rfl, serI, ih fun u h1 h2 => h u h1 (by omega), h (a + d) (by omega) (by omega)]
    have e : ((a + d + 1 : Nat) : Int) - (a : Int) = (((a + d : Nat) : Int) - (a : Int)) + 1 := by omega
    rw [e, Int.add_mul, Int.one_mul]
    omega
def serQ (l : List Int) (t : Nat) : Rat := Rat.divInt (serI l t) 12
theorem serQ_add (a d : Int) {m : Nat} (h : 1 ≤ m ∧ m ≤ 4) : Rat.divInt a 12 + Rat.divInt d m = Rat.divInt (a + d * (12 / (m : Int))) 12 := by
  have : m = 1 ∨ m = 2 ∨ m = 3 ∨ m = 4 := by omega
  rcases this with rfl | rfl | rfl | rfl
  · rw [Rat.divInt_eq_div, Rat.divInt_eq_div, Rat.divInt_eq_div, show (12 : Int) / ((1 : Nat) : Int) = 12 from rfl, Rat.intCast_add, Rat.intCast_mul]
    rw [show ((12 : Int) : Rat) = 12 from rfl, show (((1 : Nat) : Int) : Rat) = 1 from rfl]; grind
  · rw [Rat.divInt_eq_div, Rat.divInt_eq_div, Rat.divInt_eq_div, show (12 : Int) / ((2 : Nat) : Int) = 6 from rfl, Rat.intCast_add, Rat.intCast_mul]
    rw [show ((12 : Int) : Rat) = 12 from rfl, show (((2 : Nat) : Int) : Rat) = 2 from rfl, show ((6 : Int) : Rat) = 6 from rfl]; grind
  · rw [Rat.divInt_eq_div, Rat.divInt_eq_div, Rat.divInt_eq_div, show (12 : Int) / ((3 : Nat) : Int) = 4 from rfl, Rat.intCast_add, Rat.intCast_mul]
    rw [show ((12 : Int) : Rat) = 12 from rfl, show (((3 : Nat) : Int) : Rat) = 3 from rfl, show ((4 : Int) : Rat) = 4 from rfl]; grind
  · rw [Rat.divInt_eq_div, Rat.divInt_eq_div, Rat.divInt_eq_div, show (12 : Int) / ((4 : Nat) : Int) = 3 from rfl, Rat.intCast_add, Rat.intCast_mul]
    rw [show ((12 : Int) : Rat) = 12 from rfl, show (((4 : Nat) : Int) : Rat) = 4 from rfl, show ((3 : Int) : Rat) = 3 from rfl]; grind
theorem serQ_small {l : List Int} {t : Nat} (h : t ≤ 1000) : smallQ (serQ l t) := by
  have hb := serI_bd l t
  have h1 := divInt_bd (a := serI l t) (b := 12) (m := 12000) (by omega) (by omega) (by omega)
  have h2 := divInt_den_le (a := serI l t) (b := 12) (by omega)
  unfold serQ smallQ
  omega
/-- What everyone pays. -/
def serL (l : List Int) : List Rat := l.map fun x => serQ l x.toNat
theorem serL_length (l : List Int) : (serL l).length = l.length := by simp [serL]
theorem cnt_le (l : List Int) (u : Nat) : cnt l u ≤ l.length := List.countP_le_length

/- Contracts: lengths of package games, Lengths of the reference. -/

theorem lenB_bad {l : List Int} (h : ¬ (1 ≤ l.length ∧ l.length ≤ 4)) : lenB l = false := by
  rw [← Bool.not_eq_true, lenB_iff]
  rintro ⟨h2, _⟩
  exact h h2
set_option maxHeartbeats 800000 in
theorem glengths_any (A : Option Addr) (n cap : Nat) (l : List Int) (w : World) (hl : l.length = n) (hm : n ≤ 9223372036854775807) (h : Ints w A l) :
    Calls Try.prog 80 #[.slice A n cap] w fun e w' => e = .returned (.bool (lenB l)) ∧ w = w' := by
  by_cases h1 : 1 ≤ n
  · by_cases h2 : n ≤ 4
    · have hne : l ≠ [] := by rintro rfl; simp at hl; omega
      have hmn := lmin_ge hne 0
      have hmx := lmax_le hne 1000
      have l1 : (1 : Int) ≤ (n : Int) := by omega
      have l2 : (n : Int) ≤ 4 := by omega
      by_cases h3 : 0 ≤ lmin l
      · have hv : lenB l = decide (lmax l ≤ 1000) := by
          rw [Bool.eq_iff_iff, lenB_iff, decide_eq_true_eq, hmx]
          constructor
          · rintro ⟨_, h⟩; exact fun x hx => (h x hx).2
          · intro h; exact ⟨by omega, fun x hx => ⟨hmn.1 h3 x hx, h x hx⟩⟩
        have HV := Lib.hid hv
        clear hv hmn hmx
        have H := Lib.hid h
        clear h
        go_enter Try.func80, Try.ntmps80
        go_wp2_with fail
        refine (min_any _ n cap l _ hl (by omega) hm H.out).mono ?_
        rintro e w' ⟨rfl, rfl⟩
        go_wp2_with fail
        refine (max_any _ n cap l _ hl (by omega) hm H.out).mono ?_
        rintro e w' ⟨rfl, rfl⟩
        go_wp2_with fail
        go_ret
        exact ⟨ret_bool (by rw [HV.out]), rfl⟩
      · have hv : lenB l = false := by
          rw [← Bool.not_eq_true, lenB_iff]
          rintro ⟨_, h⟩
          exact h3 (hmn.2 fun x hx => (h x hx).1)
        have HV := Lib.hid hv
        clear hv hmn hmx
        have H := Lib.hid h
        clear h
        go_enter Try.func80, Try.ntmps80
        go_wp2_with fail
        refine (min_any _ n cap l _ hl (by omega) hm H.out).mono ?_
        rintro e w' ⟨rfl, rfl⟩
        go_wp2_with fail
        go_ret
        exact ⟨ret_bool (by rw [HV.out]), rfl⟩
    · have HV := Lib.hid (lenB_bad (l := l) (by omega))
      clear h
      go_enter Try.func80, Try.ntmps80
      go_wp2_with fail
      go_ret
      exact ⟨ret_bool (by rw [HV.out]), rfl⟩
  · have HV := Lib.hid (lenB_bad (l := l) (by omega))
    clear h
    go_enter Try.func80, Try.ntmps80
    go_wp2_with fail
    go_ret
    exact ⟨ret_bool (by rw [HV.out]), rfl⟩

set_option maxHeartbeats 800000 in
theorem rlengths_any (A : Option Addr) (n cap : Nat) (l : List Int) (w : World) (hl : l.length = n) (hm : n ≤ 9223372036854775807) (h : Ints w A l) :
    Calls Try.prog 53 #[.slice A n cap] w fun e w' => e = .returned (.bool (lenB l)) ∧ w = w' := by
  have H := Lib.hid (And.intro hl h)
  clear hl h
  go_enter Try.func53, Try.ntmps53
  go_wp2_with fail
  go_loop [7] (fun i => ∃ k : Nat, k ≤ n ∧ i = .int .i64 k ∧ (l.take k).all inR = true) (fun i => n - (intOf i).toNat)
  case atStart => exact ⟨0, Nat.zero_le _, rfl, by simp⟩
  case round =>
    obtain ⟨k, hk, rfl, ha⟩ := hrel
    have HA := Lib.hid ha
    clear ha
    by_cases hlt : k < n
    · obtain ⟨x, hx⟩ : ∃ x, l[k]? = some x := ⟨_, List.getElem?_eq_getElem (by rw [H.out.1]; exact hlt)⟩
      obtain ⟨ad, rfl, _, hc⟩ := H.out.2.some_ (by rw [H.out.1]; omega)
      have hcell := hc k x hx
      have HX := Lib.hid hx
      clear hx hc
      by_cases h1 : x < 0
      · go_wp2
        go_ret
        refine ⟨ret_bool ?_, rfl⟩
        symm
        rw [← Bool.not_eq_true, lenB_iff]
        rintro ⟨_, h2⟩
        have := h2 x (List.mem_of_getElem? HX.out)
        omega
      · by_cases h2 : 1000 < x
        · go_wp2
          go_ret
          refine ⟨ret_bool ?_, rfl⟩
          symm
          rw [← Bool.not_eq_true, lenB_iff]
          rintro ⟨_, h2⟩
          have := h2 x (List.mem_of_getElem? HX.out)
          omega
        · go_wp2
          go_round
          case rel => exact ⟨k + 1, by omega, by go_num, all_take_succ HX.out HA.out (by simp [inR]; omega)⟩
          case measure => simp [intOf]; omega
    · have HF : Hid (l.all inR = true) := Lib.hid (by have h := HA.out; rwa [List.take_of_length_le (by rw [H.out.1]; omega)] at h)
      have hv : lenB l = (decide (1 ≤ n) && decide (n ≤ 4)) := by unfold lenB; rw [HF.out, Bool.and_true, H.out.1]
      have HV := Lib.hid hv
      clear hv
      by_cases h1 : 1 ≤ n
      · by_cases h2 : n ≤ 4
        · go_wp2
          go_ret
          exact ⟨ret_bool (by rw [HV.out, decide_eq_true h1, decide_eq_true h2]; first | rfl | exact decide_eq_true (by omega)), rfl⟩
        · go_wp2
          go_ret
          exact ⟨ret_bool (by rw [HV.out, decide_eq_false h2, Bool.and_false]; first | rfl | exact decide_eq_false (by omega)), rfl⟩
      · go_wp2
        go_ret
        exact ⟨ret_bool (by rw [HV.out, decide_eq_false h1]; rfl), rfl⟩
/-- Lengths have at most 18 elements read. -/
theorem lenB_take (l : List Int) : lenB (l.take 18) = lenB l := by
  by_cases h : l.length ≤ 18
  · rw [List.take_of_length_le h]
  · rw [lenB_bad (l := l) (by omega), lenB_bad (l := l.take 18) (by rw [List.length_take]; omega)]

/- Contract: Road of package games. -/

/-- The costs while they are made: sets below s done, set s up to player k. -/
def roadTo (l : List Int) (N s k : Nat) : List Int := (List.range N).map fun t => if t < s then maxTo l t l.length else if t = s then maxTo l t k else 0
theorem roadTo_length (l : List Int) (N s k : Nat) : (roadTo l N s k).length = N := by simp [roadTo]
theorem roadTo_start (l : List Int) (N : Nat) : roadTo l N 0 0 = List.replicate N 0 := by
  unfold roadTo
  rw [List.eq_replicate_iff]
  refine ⟨by simp, fun x hx => ?_⟩
  obtain ⟨t, _, rfl⟩ := List.mem_map.1 hx
  rw [if_neg (by omega)]
  split <;> rfl
theorem roadTo_next (l : List Int) (N s : Nat) : roadTo l N s l.length = roadTo l N (s + 1) 0 := by
  unfold roadTo
  refine List.map_congr_left fun t _ => ?_
  by_cases h : t < s
  · rw [if_pos h, if_pos (by omega)]
  · rw [if_neg h]
    by_cases e : t = s
    · rw [if_pos e, if_pos (by omega)]
    · rw [if_neg e, if_neg (by omega)]
      split <;> rfl
theorem roadTo_all (l : List Int) (k : Nat) : roadTo l (2 ^ l.length) (2 ^ l.length) k = roadL l := by
  unfold roadTo roadL
  exact List.map_congr_left fun t ht => if_pos (List.mem_range.1 ht)
theorem roadTo_get {l : List Int} {N s k : Nat} (hs : s < N) : (roadTo l N s k)[s]? = some (maxTo l s k) := by
  unfold roadTo
  rw [List.getElem?_map, List.getElem?_range hs, Option.map_some, if_neg (by omega), if_pos rfl]
theorem roadTo_set {l : List Int} {N s k : Nat} (hs : s < N) : (roadTo l N s k).set s (maxTo l s (k + 1)) = roadTo l N s (k + 1) := by
  apply List.ext_getElem?
  intro t
  rw [List.getElem?_set]
  by_cases e : s = t
  · subst e
    rw [if_pos rfl, if_pos (by rw [roadTo_length]; exact hs), roadTo_get hs]
  · rw [if_neg e]
    unfold roadTo
    by_cases h : t < N
    · rw [List.getElem?_map, List.getElem?_map, List.getElem?_range h, Option.map_some, Option.map_some]
      by_cases h2 : t < s
      · rw [if_pos h2, if_pos h2]
      · rw [if_neg h2, if_neg h2, if_neg (by omega), if_neg (by omega)]
    · rw [List.getElem?_eq_none (by simp; omega), List.getElem?_eq_none (by simp; omega)]
/-- Road, for every lengths. -/
def roadA (l : List Int) : List Int := if lenB l then roadL l else []
def roadE (l : List Int) : Int := if lenB l then 0 else 2
theorem pow_of {n : Nat} (h : 1 ≤ n ∧ n ≤ 4) : IntKind.i64.wrap ((2 : Int) ^ n) = ((2 ^ n : Nat) : Int) ∧ 2 ≤ 2 ^ n ∧ 2 ^ n ≤ 16 := by
  have : n = 1 ∨ n = 2 ∨ n = 3 ∨ n = 4 := by omega
  rcases this with rfl | rfl | rfl | rfl <;> decide
set_option maxRecDepth 100000 in
set_option maxHeartbeats 1600000 in
theorem groad_any (A : Option Addr) (n cap : Nat) (l : List Int) (w : World) (hl : l.length = n) (hm : n ≤ 9223372036854775807) (h : Ints w A l) :
    Calls Try.prog 51 #[.slice A n cap] w fun e w' => ∃ A' k c', e = .returned (.tuple #[.slice A' k c', .int .i64 (roadE l)]) ∧ (roadA l).length = k ∧ Ints w' A' (roadA l) ∧ Below w.heap.size w w' := by
  cases hv : lenB l
  · have HV := Lib.hid hv
    clear hv
    go_enter Try.func51, Try.ntmps51
    go_wp2_with fail
    refine (glengths_any A n cap l _ hl hm h).mono ?_
    rintro e w' ⟨rfl, rfl⟩
    rw [HV.out]
    go_wp2_with fail
    go_ret2
    exact ⟨none, 0, 0, by unfold roadE; rw [HV.out]; rfl, by unfold roadA; rw [HV.out]; rfl, by unfold roadA; rw [HV.out]; exact At.nil, Below.refl _ _⟩
  · have hn4 := (lenB_iff.1 hv).1
    have hn : 1 ≤ n ∧ n ≤ 4 := by omega
    obtain ⟨hpw, hp2, hp16⟩ := pow_of hn
    obtain ⟨N, hN⟩ : ∃ N, N = 2 ^ n := ⟨_, rfl⟩
    rw [← hN] at hpw hp2 hp16
    have hmk := make_ints N (by omega)
    obtain ⟨ad, rfl, _, hc⟩ := h.some_ (by omega)
    have H := Lib.hid (And.intro hl (And.intro h (And.intro hv (And.intro hN hc))))
    clear hl h hv hN hn4 hc
    go_enter Try.func51, Try.ntmps51
    go_wp2_with fail
    refine (glengths_any _ n cap l _ H.out.1 hm H.out.2.1).mono ?_
    rintro e w' ⟨rfl, rfl⟩
    rw [H.out.2.2.1]
    go_wp2_with fail
    go_loopw [17] (fun iv wr => ∃ s : Nat, s ≤ N ∧ iv = .int .i64 s ∧ Blk wr w.heap.size 3 (arr (roadTo l N s 0)) ∧ Below w.heap.size w wr) (fun iv _ => N - (intOf iv).toNat)
    case atStart => exact ⟨0, Nat.zero_le _, rfl, by rw [roadTo_start]; exact Blk.new _ _ _ rfl, (Below.refl _ _).alloc (Nat.le_refl _) _⟩
    case round =>
      obtain ⟨s, hs, rfl, hB, hbl⟩ := hrel
      have HR := Lib.hid (And.intro hB hbl)
      clear hB hbl
      by_cases hlt : s < N
      · go_wp2_with fail
        go_loopw [22] (fun iv wr => ∃ k : Nat, k ≤ n ∧ iv = .int .i64 k ∧ Blk wr w.heap.size 3 (arr (roadTo l N s k)) ∧ Below w.heap.size w wr) (fun iv _ => n - (intOf iv).toNat)
        case atStart => exact ⟨0, Nat.zero_le _, rfl, HR.out⟩
        case round =>
          obtain ⟨k, hk, rfl, hB, hbl⟩ := hrel
          have HR2 := Lib.hid (And.intro hB hbl)
          clear hB hbl
          by_cases hlk : k < n
          · obtain ⟨x, hx⟩ : ∃ x, l[k]? = some x := ⟨_, List.getElem?_eq_getElem (by rw [H.out.1]; exact hlk)⟩
            have hxb := (lenB_iff.1 H.out.2.2.1).2 x (List.mem_of_getElem? hx)
            have c0 : wr.cell? (ad.add k) = some (.int .i64 x) := (HR2.out.2.cell (lt_of_cell (H.out.2.2.2.2 k x hx))).trans (H.out.2.2.2.2 k x hx)
            have hmb := maxTo_bd H.out.2.2.1 s k
            obtain ⟨m, hme⟩ : ∃ m, m = maxTo l s k := ⟨_, rfl⟩
            have c1 : wr.cell? ⟨w.heap.size, s, none⟩ = some (.int .i64 m) := by rw [HR2.out.1.cell, arr_get, roadTo_get hlt, ← hme]; rfl
            have f1 : wr.frozen? ⟨w.heap.size, s, none⟩ = false := HR2.out.1.frozen s
            have hbit := and_shr s k (by omega)
            have hstep : maxTo l s (k + 1) = max m (x * ((if s.testBit k then 1 else 0 : Nat) : Int)) := by
              rw [maxTo, hme, List.getD_eq_getElem?_getD, hx]
              split <;> simp
            have hset := roadTo_set (l := l) (k := k) hlt
            rw [hstep] at hset
            rw [← hme] at hmb
            obtain ⟨bt, hbt⟩ : ∃ bt : Nat, bt = (if s.testBit k then 1 else 0) := ⟨_, rfl⟩
            have hb1 : bt ≤ 1 := by rw [hbt]; split <;> omega
            rw [← hbt] at hbit hset
            obtain ⟨v, hve⟩ : ∃ v, v = x * (bt : Int) := ⟨_, rfl⟩
            have hvb : 0 ≤ v ∧ v ≤ 1000 := by
              have : bt = 0 ∨ bt = 1 := by omega
              rw [hve]
              rcases this with h | h <;> rw [h] <;> simp <;> omega
            rw [← hve] at hset
            have e1 : IntKind.i64.wrap v = v := IntWalk.i64_in _ (by omega)
            have e3 : x * (bt : Int) = v := hve.symm
            have hbit2 : IntKind.i64.wrap ((bt : Int)) = (bt : Int) := IntWalk.i64_in _ (by omega)
            have HN := Lib.hid hset
            clear hset hstep hme hbt hve hx
            go_wp2_with fail
            go_region
            go_wp2_with fail
            go_roundw
            case rel =>
              refine ⟨k + 1, by omega, by go_num, ?_, (HR2.out.2.setCell (Nat.le_refl _) _).drew⟩
              rw [← HN.out, ← arr_set, show max m v = (if m < v then v else m) from by split <;> omega]
              exact Blk.set_ HR2.out.1 s _
            case measure => simp [intOf]; omega
          · obtain rfl : n = k := by omega
            have HN : Hid (roadTo l N s n = roadTo l N (s + 1) 0) := Lib.hid (by rw [← roadTo_next, H.out.1])
            go_wp2_with fail
            go_roundw
            case rel => exact ⟨s + 1, by omega, by go_num, by rw [← HN.out]; exact HR2.out.1, HR2.out.2⟩
            case measure => simp [intOf]; omega
      · obtain rfl : N = s := by omega
        go_wp2_with fail
        go_ret2
        have hR : roadTo l N N 0 = roadL l := by rw [H.out.2.2.2.1, ← H.out.1]; exact roadTo_all l 0
        refine ⟨some ⟨w.heap.size, 0, none⟩, N, N, by unfold roadE; rw [H.out.2.2.1]; rfl, ?_, ?_, HR.out.2⟩
        · unfold roadA; rw [H.out.2.2.1, if_pos rfl, roadL_length, H.out.1, H.out.2.2.2.1]
        · unfold roadA; rw [H.out.2.2.1, if_pos rfl, ← hR]; exact blk_ints HR.out.1

/- What the loops of Serial find, and Shapley of the costs of a road: plain Lean. -/

theorem serQ_zero (l : List Int) : serQ l 0 = 0 := by unfold serQ serI; exact Rat.zero_divInt _
theorem cnt_perm {l S : List Int} (h : S.Perm l) (u : Nat) : cnt S u = cnt l u := h.countP_eq _
theorem cnt_range (l : List Int) (u : Nat) : cnt l u = ((List.range l.length).filter fun i => decide ((u : Int) < l.getD i 0)).length := by
  unfold cnt
  rw [← List.countP_eq_length_filter]
  conv => lhs; rw [show l = (List.range l.length).map (fun i => l.getD i 0) from by
    apply List.ext_getElem?
    intro i
    by_cases h : i < l.length
    · rw [List.getElem?_map, List.getElem?_range h, Option.map_some, List.getD_eq_getElem?_getD, List.getElem?_eq_getElem h]; rfl
    · rw [List.getElem?_eq_none (by omega), List.getElem?_eq_none (by simp; omega)]]
  rw [List.countP_map]
  rfl
/-- The stop before the k-th one. -/
def atS (S : List Int) : Nat → Int
  | 0 => 0
  | k + 1 => S.getD k 0
theorem filter_ge (n k : Nat) (hk : k ≤ n) (p : Nat → Bool) (h : ∀ i, i < n → (p i = true ↔ k ≤ i)) : ((List.range n).filter p).length = n - k := by
  induction n with
  | zero => simp
  | succ n ih =>
    rw [List.range_succ, List.filter_append, List.length_append]
    by_cases e : k ≤ n
    · rw [ih e fun i hi => h i (by omega)]
      have : p n = true := (h n (by omega)).2 e
      simp [this]; omega
    · have hkn : k = n + 1 := by omega
      have hall : (List.range n).filter p = [] := by
        rw [List.filter_eq_nil_iff]
        intro i hi
        have hi := List.mem_range.1 hi
        have := h i (by omega)
        intro hp
        have := this.1 hp
        omega
      have : p n = false := by
        cases hp : p n with
        | false => rfl
        | true => have := (h n (by omega)).1 hp; omega
      rw [hall]; simp [this]; omega
/-- A stretch between two stops next to each other. -/
theorem stretch {l S : List Int} {k : Nat} (hv : lenB l = true) (hp : S.Perm l) (hs : ∀ a b, a < b → b < S.length → S.getD a 0 ≤ S.getD b 0) (hk : k < S.length) :
    0 ≤ atS S k ∧ atS S k ≤ S.getD k 0 ∧ serI l (S.getD k 0).toNat = serI l (atS S k).toNat + (S.getD k 0 - atS S k) * (12 / ((S.length - k : Nat) : Int)) := by
  have hin : ∀ j, j < S.length → 0 ≤ S.getD j 0 := fun j hj => by
    have hm : S.getD j 0 ∈ l := by rw [List.getD_eq_getElem?_getD, List.getElem?_eq_getElem hj]; exact hp.mem_iff.1 (List.getElem_mem hj)
    exact ((lenB_iff.1 hv).2 _ hm).1
  have h0 : 0 ≤ atS S k := by
    cases k with
    | zero => exact Int.le_refl 0
    | succ k => exact hin k (by omega)
  have h1 : atS S k ≤ S.getD k 0 := by
    cases k with
    | zero => exact hin 0 hk
    | succ k => exact hs k (k + 1) (by omega) hk
  have h2 : ∀ u : Nat, (atS S k).toNat ≤ u → u < (S.getD k 0).toNat → cnt l u = S.length - k := by
    intro u hu1 hu2
    rw [← cnt_perm hp, cnt_range]
    refine filter_ge _ _ (by omega) _ fun i hi => ?_
    rw [decide_eq_true_eq]
    constructor
    · intro hlt
      rcases Nat.lt_or_ge i k with hik | hik
      · exfalso
        obtain ⟨j, rfl⟩ : ∃ j, k = j + 1 := ⟨k - 1, by omega⟩
        have h3 : S.getD i 0 ≤ S.getD j 0 := by
          rcases Nat.lt_or_ge i j with h | h
          · exact hs i j h (by omega)
          · rw [show i = j by omega]; exact Int.le_refl _
        simp only [atS] at hu1
        omega
      · exact hik
    · intro hik
      have h3 : S.getD k 0 ≤ S.getD i 0 := by
        rcases Nat.lt_or_ge k i with h | h
        · exact hs k i h hi
        · rw [show i = k by omega]; exact Int.le_refl _
      omega
  refine ⟨h0, h1, ?_⟩
  rw [serI_step (by omega) h2, Int.toNat_of_nonneg h0, Int.toNat_of_nonneg (by omega)]
/-- The last stop that x drives to is x. -/
theorem at_end {l S : List Int} {k : Nat} {x : Int} (hp : S.Perm l) (hs : ∀ a b, a < b → b < S.length → S.getD a 0 ≤ S.getD b 0) (hx : x ∈ l) (hk : k ≤ S.length) (h1 : ∀ j, j < k → S.getD j 0 ≤ x) (h2 : k = S.length ∨ x < S.getD k 0) : atS S k = x := by
  obtain ⟨j, hj, e⟩ := List.getElem_of_mem (hp.mem_iff.2 hx)
  have e2 : S.getD j 0 = x := by rw [List.getD_eq_getElem?_getD, List.getElem?_eq_getElem hj]; exact e
  have hjk : j < k := by
    rcases Nat.lt_or_ge j k with h | h
    · exact h
    · exfalso
      rcases h2 with h2 | h2
      · omega
      · have : S.getD k 0 ≤ S.getD j 0 := by
          rcases Nat.lt_or_ge k j with h3 | h3
          · exact hs k j h3 hj
          · rw [show j = k by omega]; exact Int.le_refl _
        omega
  obtain ⟨i, rfl⟩ : ∃ i, k = i + 1 := ⟨k - 1, by omega⟩
  simp only [atS]
  have h3 := h1 i (by omega)
  have h4 : S.getD j 0 ≤ S.getD i 0 := by
    rcases Nat.lt_or_ge j i with h3 | h3
    · exact hs j i h3 (by omega)
    · rw [show j = i by omega]; exact Int.le_refl _
  omega

/-- The next stop after f, and who drives there, among the first k. -/
def NextOk (l : List Int) (f : Nat) (k : Nat) (nx : Int) (us : Nat) : Prop :=
  us = (l.take k).countP (fun x => decide ((f : Int) < x)) ∧ ((nx = -1 ∧ ∀ x ∈ l.take k, x ≤ f) ∨ ((f : Int) < nx ∧ nx ∈ l.take k ∧ ∀ x ∈ l.take k, (f : Int) < x → nx ≤ x))
theorem next_zero (l : List Int) (f : Nat) : NextOk l f 0 (-1) 0 := ⟨by simp, .inl ⟨rfl, by simp⟩⟩
theorem next_skip {l : List Int} {f k us : Nat} {nx x : Int} (h : NextOk l f k nx us) (hx : l[k]? = some x) (hf : x ≤ f) : NextOk l f (k + 1) nx us := by
  unfold NextOk at *
  rw [take_succ' hx]
  refine ⟨by rw [List.countP_append, ← h.1]; simp; omega, ?_⟩
  rcases h.2 with ⟨h1, h2⟩ | ⟨h1, h2, h3⟩
  · exact .inl ⟨h1, fun y hy => by rcases List.mem_append.1 hy with hy | hy; exact h2 y hy; rw [List.mem_singleton.1 hy]; exact hf⟩
  · exact .inr ⟨h1, List.mem_append_left _ h2, fun y hy hfy => by
      rcases List.mem_append.1 hy with hy | hy
      · exact h3 y hy hfy
      · rw [List.mem_singleton.1 hy] at hfy; omega⟩
theorem next_take {l : List Int} {f k us : Nat} {nx x : Int} (h : NextOk l f k nx us) (hx : l[k]? = some x) (hf : (f : Int) < x) (hn : nx < 0 ∨ x < nx) : NextOk l f (k + 1) x (us + 1) := by
  unfold NextOk at *
  rw [take_succ' hx]
  refine ⟨by rw [List.countP_append, ← h.1]; simp [hf], .inr ⟨hf, List.mem_append_right _ (List.mem_singleton.2 rfl), fun y hy hfy => ?_⟩⟩
  rcases List.mem_append.1 hy with hy | hy
  · rcases h.2 with ⟨h1, h2⟩ | ⟨h1, h2, h3⟩
    · have := h2 y hy; omega
    · have := h3 y hy hfy; omega
  · rw [List.mem_singleton.1 hy]; exact Int.le_refl _
theorem next_count {l : List Int} {f k us : Nat} {nx x : Int} (h : NextOk l f k nx us) (hx : l[k]? = some x) (hf : (f : Int) < x) (hn : ¬ (nx < 0 ∨ x < nx)) : NextOk l f (k + 1) nx (us + 1) := by
  unfold NextOk at *
  rw [take_succ' hx]
  refine ⟨by rw [List.countP_append, ← h.1]; simp [hf], ?_⟩
  rcases h.2 with ⟨h1, h2⟩ | ⟨h1, h2, h3⟩
  · omega
  · refine .inr ⟨h1, List.mem_append_left _ h2, fun y hy hfy => ?_⟩
    rcases List.mem_append.1 hy with hy | hy
    · exact h3 y hy hfy
    · rw [List.mem_singleton.1 hy]; omega
/-- What the reference has paid when the road is built to f. -/
def serTo (l : List Int) (f : Nat) : List Rat := l.map fun x => serQ l (min x.toNat f)
/-- In the middle of a round: the first k are brought from f to g. -/
def serMid (l : List Int) (f g k : Nat) : List Rat := (List.range l.length).map fun i => serQ l (min (l.getD i 0).toNat (if i < k then g else f))
theorem serTo_length (l : List Int) (f : Nat) : (serTo l f).length = l.length := by simp [serTo]
theorem serMid_length (l : List Int) (f g k : Nat) : (serMid l f g k).length = l.length := by simp [serMid]
theorem serTo_eq (l : List Int) (f : Nat) : serTo l f = (List.range l.length).map fun i => serQ l (min (l.getD i 0).toNat f) := by
  unfold serTo
  apply List.ext_getElem?
  intro i
  by_cases h : i < l.length
  · rw [List.getElem?_map, List.getElem?_map, List.getElem?_range h, List.getElem?_eq_getElem h, Option.map_some, Option.map_some, List.getD_eq_getElem?_getD, List.getElem?_eq_getElem h]
    rfl
  · rw [List.getElem?_eq_none (by simp; omega), List.getElem?_eq_none (by simp; omega)]
theorem serMid_zero (l : List Int) (f g : Nat) : serMid l f g 0 = serTo l f := by
  rw [serTo_eq]; unfold serMid; simp
theorem serMid_all (l : List Int) (f g : Nat) : serMid l f g l.length = serTo l g := by
  rw [serTo_eq]; unfold serMid
  refine List.map_congr_left fun i hi => ?_
  rw [if_pos (List.mem_range.1 hi)]
theorem serMid_get {l : List Int} {f g k : Nat} {x : Int} (hx : l[k]? = some x) : (serMid l f g k)[k]? = some (serQ l (min x.toNat f)) := by
  have hk : k < l.length := (List.getElem?_eq_some_iff.1 hx).1
  unfold serMid
  rw [List.getElem?_map, List.getElem?_range hk, Option.map_some, List.getD_eq_getElem?_getD, hx, if_neg (by omega)]
  rfl
theorem serMid_set {l : List Int} {f g k : Nat} {x : Int} (hx : l[k]? = some x) : (serMid l f g k).set k (serQ l (min x.toNat g)) = serMid l f g (k + 1) := by
  have hk : k < l.length := (List.getElem?_eq_some_iff.1 hx).1
  apply List.ext_getElem?
  intro i
  rw [List.getElem?_set]
  by_cases e : k = i
  · subst e
    rw [if_pos rfl, if_pos (by rw [serMid_length]; exact hk)]
    unfold serMid
    rw [List.getElem?_map, List.getElem?_range hk, Option.map_some, List.getD_eq_getElem?_getD, hx, if_pos (by omega)]
    rfl
  · rw [if_neg e]
    unfold serMid
    by_cases h : i < l.length
    · rw [List.getElem?_map, List.getElem?_map, List.getElem?_range h, Option.map_some, Option.map_some]
      by_cases h2 : i < k
      · rw [if_pos h2, if_pos (by omega)]
      · rw [if_neg h2, if_neg (by omega)]
    · rw [List.getElem?_eq_none (by simp; omega), List.getElem?_eq_none (by simp; omega)]
theorem serMid_stay {l : List Int} {f g k : Nat} {x : Int} (hx : l[k]? = some x) (h : x ≤ f) (hg : x ≤ g) : serMid l f g k = serMid l f g (k + 1) := by
  rw [← serMid_set hx, show min x.toNat g = min x.toNat f from by omega]
  apply List.ext_getElem?
  intro i
  rw [List.getElem?_set]
  split
  · rename_i e
    subst e
    rw [if_pos (by rw [serMid_length]; exact (List.getElem?_eq_some_iff.1 hx).1), serMid_get hx]
  · rfl
theorem serMid_stay' {l : List Int} {f g k : Nat} (hk : k < l.length) (h : ∀ x ∈ l, x ≤ f) (hg : ∀ x ∈ l, x ≤ g) : serMid l f g k = serMid l f g (k + 1) :=
  serMid_stay (List.getElem?_eq_getElem hk) (h _ (List.getElem_mem hk)) (hg _ (List.getElem_mem hk))
theorem serTo_end {l : List Int} (hv : lenB l = true) {f : Nat} (h : ∀ x ∈ l, x ≤ f) : serTo l f = serL l := by
  unfold serTo serL
  refine List.map_congr_left fun x hx => ?_
  have h0 := ((lenB_iff.1 hv).2 x hx).1
  have h1 := h x hx
  rw [show min x.toNat f = x.toNat from by omega]
theorem serTo_zero {l : List Int} : serTo l 0 = List.replicate l.length 0 := by
  unfold serTo
  rw [List.eq_replicate_iff]
  refine ⟨by simp, fun q hq => ?_⟩
  obtain ⟨x, _, rfl⟩ := List.mem_map.1 hq
  rw [Nat.min_zero]
  exact serQ_zero l
/-- One stretch more. -/
theorem serQ_next {l : List Int} {f g us : Nat} (hv : lenB l = true) (h : NextOk l f l.length (g : Int) us) (hus : 1 ≤ us) : f < g ∧ us ≤ 4 ∧ serQ l f + Rat.divInt ((g : Int) - (f : Int)) us = serQ l g := by
  unfold NextOk at h
  rw [List.take_length] at h
  rcases h.2 with ⟨h1, _⟩ | ⟨h1, h2, h3⟩
  · omega
  · have hu4 : us ≤ 4 := by
      have := cnt_le l f
      have h4 := (lenB_iff.1 hv).1
      rw [h.1]
      unfold cnt at this
      omega
    refine ⟨by omega, hu4, ?_⟩
    unfold serQ
    rw [serQ_add _ _ ⟨hus, hu4⟩, ← serI_step (by omega) fun u hu1 hu2 => ?_]
    rw [h.1]
    unfold cnt
    refine List.countP_congr fun x hx => ?_
    rw [decide_eq_true_eq, decide_eq_true_eq]
    constructor
    · intro hux; omega
    · intro hfx; have := h3 x hx hfx; omega
theorem next_pos {l : List Int} {f us : Nat} {g : Int} (h : NextOk l f l.length g us) (hg : 0 ≤ g) : 1 ≤ us ∧ (∃ x ∈ l, (f : Int) < x) ∧ g ∈ l := by
  unfold NextOk at h
  rw [List.take_length] at h
  rcases h.2 with ⟨h1, _⟩ | ⟨h1, h2, _⟩
  · omega
  · refine ⟨?_, ⟨g, h2, h1⟩, h2⟩
    rw [h.1]
    exact List.countP_pos_iff.2 ⟨g, h2, by simpa using h1⟩
theorem next_none {l : List Int} {f us : Nat} {g : Int} (h : NextOk l f l.length g us) (hg : ¬ 0 ≤ g) : g = -1 ∧ ∀ x ∈ l, x ≤ f := by
  unfold NextOk at h
  rw [List.take_length] at h
  rcases h.2 with ⟨h1, h2⟩ | ⟨h1, _, _⟩
  · exact ⟨h1, h2⟩
  · omega
theorem next_mem {l : List Int} {f k us : Nat} {g x : Int} (h : NextOk l f l.length g us) (hx : l[k]? = some x) (hf : (f : Int) < x) : g ≤ x ∧ (f : Int) < g := by
  unfold NextOk at h
  rw [List.take_length] at h
  have hm := List.mem_of_getElem? hx
  rcases h.2 with ⟨h1, h2⟩ | ⟨h1, _, h3⟩
  · have := h2 x hm; omega
  · exact ⟨h3 x hm hf, h1⟩

/- Contract: pdqsortOrdered on 12 ints or fewer. -/

set_option maxRecDepth 100000 in
set_option maxHeartbeats 1600000 in
theorem pdq_any (g cap n : Nat) (lim : Int) (l : List Int) (w : World) (hl : l.length = n) (hn : 1 ≤ n ∧ n ≤ 12) (h : PreB w g n cap l) :
    Calls Try.prog 95 #[.slice (some ⟨g, 0, none⟩) n cap, .int .i64 0, .int .i64 n, .int .i64 lim] w fun e w' => e = .returned (.tuple #[]) ∧ PreB w' g n cap (sortTo l n) ∧ Kept w.heap.size [g] w w' := by
  have H := Lib.hid (And.intro hl h)
  clear hl h
  go_enter Try.func95, Try.ntmps95
  go_wp2_with fail
  refine wp_loop_rounds 1 ?_
  rw [rounds_succ]
  go_wp2_with fail
  refine (isort_any g cap n l w H.out.1 (by omega) H.out.2).mono ?_
  rintro e w1 ⟨rfl, h1, h2⟩
  have H1 := Lib.hid (And.intro h1 h2)
  clear h1 h2
  go_wp2_with fail
  (try simp only [Exit.inBlock, Exit.then])
  refine bodyPost_ret (results_none rfl _ _ _) rfl ?_
  exact ⟨rfl, H1.out⟩

/- Contract: bits.Len of a small number. -/

set_option maxRecDepth 100000 in
set_option maxHeartbeats 1600000 in
theorem blen64_any (n : Nat) (hn : n ≤ 4) (w : World) : Calls Try.prog 107 #[.int .u64 n] w fun e w' => (∃ k : Int, e = .returned (.int .i64 k)) ∧ w = w' := by
  have h1 : ¬ (4294967296 : Int) ≤ (n : Int) := by omega
  have h2 : ¬ (65536 : Int) ≤ (n : Int) := by omega
  have h3 : ¬ (256 : Int) ≤ (n : Int) := by omega
  match n, hn with
  | 0, _ => go_enter Try.func107, Try.ntmps107; go_wp2_with fail; go_ret; exact ⟨⟨_, rfl⟩, rfl⟩
  | 1, _ => go_enter Try.func107, Try.ntmps107; go_wp2_with fail; go_ret; exact ⟨⟨_, rfl⟩, rfl⟩
  | 2, _ => go_enter Try.func107, Try.ntmps107; go_wp2_with fail; go_ret; exact ⟨⟨_, rfl⟩, rfl⟩
  | 3, _ => go_enter Try.func107, Try.ntmps107; go_wp2_with fail; go_ret; exact ⟨⟨_, rfl⟩, rfl⟩
  | 4, _ => go_enter Try.func107, Try.ntmps107; go_wp2_with fail; go_ret; exact ⟨⟨_, rfl⟩, rfl⟩
theorem blen_any (n : Nat) (hn : n ≤ 4) (w : World) : Calls Try.prog 96 #[.int .u64 n] w fun e w' => (∃ k : Int, e = .returned (.int .i64 k)) ∧ w = w' := by
  go_enter Try.func96, Try.ntmps96
  go_wp2_with fail
  refine (blen64_any n hn w).mono ?_
  rintro e w' ⟨⟨k, rfl⟩, rfl⟩
  go_wp2_with fail
  go_ret
  exact ⟨⟨_, rfl⟩, rfl⟩

set_option maxRecDepth 100000 in
set_option maxHeartbeats 1600000 in
theorem ssort_any (g cap n : Nat) (l : List Int) (w : World) (hl : l.length = n) (hn : 1 ≤ n ∧ n ≤ 4) (h : PreB w g n cap l) :
    Calls Try.prog 92 #[.slice (some ⟨g, 0, none⟩) n cap] w fun e w' => e = .returned (.tuple #[]) ∧ PreB w' g n cap (sortTo l n) ∧ Kept w.heap.size [g] w w' := by
  have H := Lib.hid (And.intro hl h)
  clear hl h
  go_enter Try.func92, Try.ntmps92
  go_wp2_with fail
  refine (blen_any n hn.2 w).mono ?_
  rintro e w' ⟨⟨k, rfl⟩, rfl⟩
  go_wp2_with fail
  refine (pdq_any g cap n k l w H.out.1 (by omega) H.out.2).mono ?_
  rintro e w1 ⟨rfl, h1, h2⟩
  have H1 := Lib.hid (And.intro h1 h2)
  clear h1 h2
  go_wp2_with fail
  go_end0
  exact ⟨rfl, H1.out⟩
end Go.Proofs.Ytbidboagaoifaaa
