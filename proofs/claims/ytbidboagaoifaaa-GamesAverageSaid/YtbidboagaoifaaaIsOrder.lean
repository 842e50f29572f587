/- Contracts: isOrder and Join of package games, IsOrder and Join of package corrodyref07. -/
import Derived.Test.YtbidboagaoifaaaJoin
import Derived.Test.YtbidboagaoifaaaValid
import Derived.Test.YtbidboagaoifaaaOrdLaw
namespace Go.Proofs.Ytbidboagaoifaaa
open Go.RowKit

theorem drop_cons {α : Type} {l : List α} {k : Nat} {x : α} (h : l[k]? = some x) : l.drop k = x :: l.drop (k + 1) := by
  obtain ⟨hk, he⟩ := List.getElem?_eq_some_iff.1 h
  rw [List.drop_eq_getElem_cons hk, he]
theorem ordRgo_bad {n met : Nat} {x : Int} {l : List Int} (h : x < 0 ∨ (n : Int) ≤ x) : ordRgo n met (x :: l) = false := by
  rw [ordRgo, if_pos (by omega)]
theorem ordRgo_met {n met y : Nat} {l : List Int} (h : met.testBit y = true) : ordRgo n met ((y : Int) :: l) = false := by
  rw [Nat.testBit_eq_decide_div_mod_eq] at h
  rw [ordRgo, if_pos (.inr (.inr (by simpa using h)))]
theorem ordRgo_on {n met y : Nat} {l : List Int} (hy : y < n) (h : met.testBit y = false) : ordRgo n met ((y : Int) :: l) = ordRgo n (met ||| 2 ^ y) l := by
  rw [Nat.testBit_eq_decide_div_mod_eq] at h
  have : ¬ met / 2 ^ y % 2 = 1 := by simpa using h
  rw [ordRgo, if_neg (by rintro (h | h | h) <;> first | omega | exact this (by simpa using h))]
  simp
theorem ordGgo_bad {n met : Nat} {x : Int} {l : List Int} (h : x < 0 ∨ (n : Int) ≤ x) : ordGgo n met (x :: l) = false := by
  rw [ordGgo, if_pos (by omega)]
theorem ordGgo_on {n met y : Nat} {l : List Int} (hy : y < n) : ordGgo n met ((y : Int) :: l) = ordGgo n (met ||| 2 ^ y) l := by
  rw [ordGgo, if_neg (by omega)]
  simp

set_option maxHeartbeats 800000 in
theorem risorder_any (A : Option Addr) (m cap : Nat) (l : List Int) (n : Nat) (w : World) (hl : l.length = m) (hm : m ≤ 9223372036854775807) (hn : n ≤ 4) (h : Ints w A l) :
    Calls Try.prog 31 #[.slice A m cap, .int .i64 n] w fun e w' => e = .returned (.bool (ordR n l)) ∧ w = w' := by
  have hI := fun (hp : 0 < l.length) => h.some_ hp
  have H := Lib.hid (And.intro hl hI)
  clear hl h hI
  go_enter Try.func31, Try.ntmps31
  go_wp2
  go_loop [5, 10] (fun s i => ∃ k met : Nat, k ≤ m ∧ i = .int .i64 k ∧ s = .int .i64 met ∧ met < 2 ^ n ∧ ordRgo n 0 l = ordRgo n met (l.drop k)) (fun _ i => m - (intOf i).toNat)
  case atStart => exact ⟨0, 0, Nat.zero_le _, rfl, rfl, Nat.pos_of_neZero _, rfl⟩
  case round =>
    obtain ⟨k, met, hk, rfl, rfl, hb, hg⟩ := hrel
    have hp : 2 ^ n ≤ 16 := by have := Nat.pow_le_pow_right (show 0 < 2 by omega) hn; simpa using this
    have HG := Lib.hid (And.intro hg hb)
    have hb16 : met < 16 := by omega
    clear hg hb hp
    by_cases hlt : k < m
    · obtain ⟨hl, hI⟩ := H.out
      obtain ⟨ad, rfl, _, hc⟩ := hI (by omega)
      obtain ⟨x, hx⟩ : ∃ x, l[k]? = some x := ⟨_, List.getElem?_eq_getElem (by omega)⟩
      have hcell := hc k x hx
      have HD := Lib.hid (drop_cons hx)
      clear hl hI hc hx
      by_cases h1 : x < 0
      · have HR : Hid (ordR n l = false) := Lib.hid (by unfold ordR; rw [HG.out.1, HD.out, ordRgo_bad (.inl h1)]; rfl)
        go_wp2
        go_ret
        exact ⟨ret_bool HR.out.symm, rfl⟩
      · by_cases h2 : (n : Int) ≤ x
        · have HR : Hid (ordR n l = false) := Lib.hid (by unfold ordR; rw [HG.out.1, HD.out, ordRgo_bad (.inr h2)]; rfl)
          go_wp2
          go_ret
          exact ⟨ret_bool HR.out.symm, rfl⟩
        · obtain ⟨y, rfl⟩ := Int.eq_ofNat_of_zero_le (show 0 ≤ x by omega)
          have hy : y < n := by omega
          have hy4 : y < 4 := by omega
          cases ht : met.testBit y
          · have t1 := and_shr_f (set := met) (k := y) (by omega) ht
            have e1 := or_pow met y (by omega) (by omega)
            have e2 := or_pow' met y (by omega) (by omega)
            obtain ⟨s', hs'⟩ : ∃ s', s' = met ||| 2 ^ y := ⟨_, rfl⟩
            rw [← hs'] at e1 e2
            have HN : Hid (s' < 2 ^ n ∧ ordRgo n 0 l = ordRgo n s' (l.drop (k + 1))) := Lib.hid ⟨by rw [hs']; exact or_pow_lt HG.out.2 hy, by rw [HG.out.1, HD.out, ordRgo_on hy ht, hs']⟩
            clear ht hs'
            go_wp2
            go_round
            case rel => exact ⟨k + 1, s', by omega, by go_num, rfl, HN.out.1, HN.out.2⟩
            case measure => simp [intOf]; omega
          · have t1 := and_shr_t (set := met) (k := y) (by omega) ht
            have HR : Hid (ordR n l = false) := Lib.hid (by unfold ordR; rw [HG.out.1, HD.out, ordRgo_met ht]; rfl)
            clear ht
            go_wp2
            go_ret
            exact ⟨ret_bool HR.out.symm, rfl⟩
    · obtain rfl : k = m := by omega
      have HR : Hid (ordR n l = decide (k = n)) := Lib.hid (by unfold ordR; rw [HG.out.1, List.drop_of_length_le (by rw [H.out.1]; omega), H.out.1]; simp [ordRgo])
      by_cases hkn : k = n
      · have hd : ((k : Int) == (n : Int)) = true := by simp [hkn]
        have HK := Lib.hid hkn
        clear hkn
        go_wp2
        go_ret
        exact ⟨ret_bool (by rw [HR.out]; simp [HK.out]), rfl⟩
      · have hd : ((k : Int) == (n : Int)) = false := by simp; omega
        go_wp2
        go_ret
        exact ⟨ret_bool (by rw [HR.out]; simp [hkn]), rfl⟩

theorem np_cases {n N : Nat} (h1 : 1 ≤ n) (h4 : n ≤ 4) (hN : N = 2 ^ n) : N = 2 ∧ n = 1 ∨ N = 4 ∧ n = 2 ∨ N = 8 ∧ n = 3 ∨ N = 16 ∧ n = 4 := by
  subst hN
  match n, h1, h4 with
  | 1, _, _ => simp
  | 2, _, _ => simp
  | 3, _, _ => simp
  | 4, _, _ => simp

set_option maxHeartbeats 800000 in
theorem gisorder_any (C : Option Addr) (N capc : Nat) (A : Option Addr) (m cap : Nat) (l : List Int) (n : Nat) (w : World) (hl : l.length = m) (hm : m ≤ 9223372036854775807) (h1 : 1 ≤ n) (hn : n ≤ 4) (hN : N = 2 ^ n) (h : Ints w A l) :
    Calls Try.prog 64 #[.slice C N capc, .slice A m cap] w fun e w' => e = .returned (.bool (ordG n l)) ∧ w = w' := by
  have hI := fun (hp : 0 < l.length) => h.some_ hp
  have hnp := np_cases h1 hn hN
  have H := Lib.hid (And.intro hl (And.intro hI (And.intro hnp hN)))
  have hN16 : 2 ≤ N ∧ N ≤ 16 := by omega
  clear hl h hI hnp hN
  go_enter Try.func64, Try.ntmps64
  go_wp2_with fail
  go_loop [5, 10] (fun s i => ∃ k met : Nat, k ≤ m ∧ i = .int .i64 k ∧ s = .int .i64 met ∧ met < 2 ^ n ∧ ordGgo n 0 l = ordGgo n met (l.drop k)) (fun _ i => m - (intOf i).toNat)
  case atStart => exact ⟨0, 0, Nat.zero_le _, rfl, rfl, Nat.pos_of_neZero _, rfl⟩
  case round =>
    obtain ⟨k, met, hk, rfl, rfl, hb, hg⟩ := hrel
    have hp : 2 ^ n ≤ 16 := by have := Nat.pow_le_pow_right (show 0 < 2 by omega) hn; simpa using this
    have HG := Lib.hid (And.intro hg hb)
    have hb16 : met < 16 := by omega
    clear hg hb hp
    by_cases hlt : k < m
    · obtain ⟨hl, hI, hnp, hN⟩ := H.out
      obtain ⟨ad, rfl, _, hc⟩ := hI (by omega)
      obtain ⟨x, hx⟩ : ∃ x, l[k]? = some x := ⟨_, List.getElem?_eq_getElem (by omega)⟩
      have hcell := hc k x hx
      have HD := Lib.hid (drop_cons hx)
      clear hl hI hc hx hnp hN
      by_cases h1 : x < 0
      · have HR : Hid (ordG n l = false) := Lib.hid (by unfold ordG; rw [HG.out.1, HD.out, ordGgo_bad (.inl h1)]; rfl)
        go_wp2_with fail
        go_ret
        exact ⟨ret_bool HR.out.symm, rfl⟩
      · by_cases h2 : (n : Int) ≤ x
        · have HR : Hid (ordG n l = false) := Lib.hid (by unfold ordG; rw [HG.out.1, HD.out, ordGgo_bad (.inr h2)]; rfl)
          go_wp2_with fail
          refine (players_any _ _ n _ _ H.out.2.2.1).mono ?_
          rintro e w' ⟨rfl, rfl⟩
          go_wp2_with fail
          go_ret
          exact ⟨ret_bool HR.out.symm, rfl⟩
        · obtain ⟨y, rfl⟩ := Int.eq_ofNat_of_zero_le (show 0 ≤ x by omega)
          have hy : y < n := by omega
          have hy4 : y < 4 := by omega
          have e1 := or_pow met y (by omega) (by omega)
          have e2 := or_pow' met y (by omega) (by omega)
          obtain ⟨s', hs'⟩ : ∃ s', s' = met ||| 2 ^ y := ⟨_, rfl⟩
          rw [← hs'] at e1 e2
          have HN : Hid (s' < 2 ^ n ∧ ordGgo n 0 l = ordGgo n s' (l.drop (k + 1))) := Lib.hid ⟨by rw [hs']; exact or_pow_lt HG.out.2 hy, by rw [HG.out.1, HD.out, ordGgo_on hy, hs']⟩
          clear hs'
          go_wp2_with fail
          refine (players_any _ _ n _ _ H.out.2.2.1).mono ?_
          rintro e w' ⟨rfl, rfl⟩
          go_wp2_with fail
          go_round
          case rel => exact ⟨k + 1, s', by omega, by go_num, rfl, HN.out.1, HN.out.2⟩
          case measure => simp [intOf]; omega
    · obtain rfl : k = m := by omega
      have HR : Hid (ordG n l = (decide (met = 2 ^ n - 1) && decide (k = n))) := Lib.hid (by unfold ordG; rw [HG.out.1, List.drop_of_length_le (by rw [H.out.1]; omega), H.out.1]; simp [ordGgo])
      by_cases hkn : k = n
      · have hd : ((k : Int) == (n : Int)) = true := by simp [hkn]
        have HK := Lib.hid hkn
        clear hkn
        have hNN := H.out.2.2.2
        cases hs : decide (met = 2 ^ n - 1)
        · have he : ((met : Int) == (N : Int) - 1) = false := by
            rw [decide_eq_false_iff_not] at hs
            rw [beq_eq_false_iff_ne]; omega
          have HS := Lib.hid hs
          clear hs hNN
          go_wp2_with fail
          refine (players_any _ _ n _ _ H.out.2.2.1).mono ?_
          rintro e w' ⟨rfl, rfl⟩
          go_wp2_with fail
          go_ret
          exact ⟨ret_bool (by rw [HR.out, HS.out]; rfl), rfl⟩
        · have he : ((met : Int) == (N : Int) - 1) = true := by
            rw [decide_eq_true_eq] at hs
            have hpos : 0 < 2 ^ n := Nat.pos_of_neZero _
            rw [beq_iff_eq]; omega
          have HS := Lib.hid hs
          clear hs hNN
          go_wp2_with fail
          refine (players_any _ _ n _ _ H.out.2.2.1).mono ?_
          rintro e w' ⟨rfl, rfl⟩
          go_wp2_with fail
          go_ret
          exact ⟨ret_bool (by rw [HR.out, HS.out]; simp [HK.out]), rfl⟩
      · have hd : ((k : Int) == (n : Int)) = false := by simp; omega
        go_wp2_with fail
        refine (players_any _ _ n _ _ H.out.2.2.1).mono ?_
        rintro e w' ⟨rfl, rfl⟩
        go_wp2_with fail
        go_ret
        exact ⟨ret_bool (by rw [HR.out]; simp [hkn]), rfl⟩

/-- Join of an order. -/
def joinZ (c l : List Int) : List Int := joinL c (l.map Int.toNat)
theorem toNat_of {l : List Int} (os : List Nat) (h : l = os.map Int.ofNat) : l.map Int.toNat = os := by
  subst h
  rw [List.map_map]
  conv => rhs; rw [← List.map_id os]
  apply List.map_congr_left
  intro x _
  rfl

set_option maxHeartbeats 800000 in
theorem gjoin_ok (ac : Addr) (N capc : Nat) (A : Option Addr) (m cap : Nat) (c l : List Int) (w : World) (hlc : c.length = N) (hv : valC c = true) (hl : l.length = m) (hm : m ≤ 9223372036854775807)
    (hc : Ints w (some ac) c) (h : Ints w A l) (ho : ordG (plr c) l = true) :
    Calls Try.prog 28 #[.slice (some ac) N capc, .slice A m cap] w fun e w' => ∃ g, e = .returned (.tuple #[.slice (some ⟨g, 0, none⟩) (plr c) (plr c), .int .i64 0]) ∧ w.heap.size ≤ g ∧ Blk w' g 3 (arr (joinZ c l)) ∧ Below w.heap.size w w' := by
  have hp := valC_pow hv
  have hmem : ∀ x ∈ l, 0 ≤ x ∧ x < plr c := by
    unfold ordG at ho
    rw [Bool.and_eq_true] at ho
    exact ordGgo_mem ho.1
  have hlen : l.length = plr c := by
    unfold ordG at ho
    rw [Bool.and_eq_true, decide_eq_true_eq] at ho
    exact ho.2
  obtain ⟨os, hos, hon⟩ := nats_of hmem
  obtain ⟨n, hn⟩ : ∃ n, n = plr c := ⟨_, rfl⟩
  rw [← hn] at hp hon hlen ho ⊢
  have H := Lib.hid (And.intro hlc (And.intro hv (And.intro hl (And.intro hc (And.intro h (And.intro ho (And.intro hp (And.intro hlen (And.intro hos hon)))))))))
  have hn4 : 1 ≤ n ∧ n ≤ 4 := hp.2
  have hN16 : 2 ≤ N ∧ N ≤ 16 := by have := (valC_iff.1 hv).1; omega
  clear hlc hv hl hc h ho hp hlen hos hon hmem hn
  go_enter Try.func28, Try.ntmps28
  go_wp2_with fail
  refine (valid_any (some ac) N capc c _ H.out.1 (by omega) H.out.2.2.2.1).mono ?_
  rintro e w1 ⟨rfl, hb⟩
  rw [H.out.2.1]
  have HB := Lib.hid hb
  clear hb
  go_wp2_with fail
  refine (gisorder_any _ N _ A m cap l n _ H.out.2.2.1 hm hn4.1 hn4.2 (by rw [← H.out.1]; exact H.out.2.2.2.2.2.2.1.1) (H.out.2.2.2.2.1.below HB.out)).mono ?_
  rintro e w' ⟨rfl, rfl⟩
  rw [H.out.2.2.2.2.2.1]
  have hmn : m = n := by rw [← H.out.2.2.1]; exact H.out.2.2.2.2.2.2.2.1
  subst hmn
  obtain ⟨ad, hA, _, _⟩ := (H.out.2.2.2.2.1).some_ (by rw [H.out.2.2.1]; omega)
  subst hA
  go_wp2_with fail
  obtain ⟨hlc, hv, hl, hc, h, ho, hp, hlen, hos, hon⟩ := H.out
  refine (join_any ad ac N _ m _ c os _ hn4.2 (by rw [← hlc]; exact hp.1) hlc (by rw [hos] at hlen; simpa using hlen)
    (fun i x hi => (hc.below HB.out).some2 i _ (by simp [hi])) (fun i x hi => (h.below HB.out).some2 i _ (by rw [hos]; simp [hi])) hon (valC_iff.1 hv).2.2).mono ?_
  rintro e w2 ⟨rfl, hJ, hb2⟩
  have hbl : Below w.heap.size w w2 := HB.out.trans (hb2.mono HB.out.size)
  have HJ : Hid (joinL c os = joinZ c l) := Lib.hid (by unfold joinZ; rw [toNat_of os hos])
  have HF := Lib.hid (And.intro hJ hbl)
  have hsz := HB.out.size
  clear hJ hb2 hbl hlc hv hl hc h ho hp hlen hos hon
  go_wp2_with fail
  go_ret2
  exact ⟨_, rfl, hsz, by rw [← HJ.out]; exact HF.out.1, HF.out.2⟩

set_option maxHeartbeats 800000 in
theorem gjoin_bad (C : Option Addr) (N capc : Nat) (A : Option Addr) (m cap : Nat) (c l : List Int) (w : World) (hlc : c.length = N) (hN : N ≤ 9223372036854775807) (hl : l.length = m) (hm : m ≤ 9223372036854775807)
    (hc : Ints w C c) (h : Ints w A l) (ho : valC c = false ∨ valC c = true ∧ ordG (plr c) l = false) :
    Calls Try.prog 28 #[.slice C N capc, .slice A m cap] w fun e w' => e = .returned (.tuple #[.slice none 0 0, .int .i64 2]) ∧ Below w.heap.size w w' := by
  have H := Lib.hid (And.intro hlc (And.intro hl (And.intro hc h)))
  clear hlc hl hc h
  rcases ho with hv | ⟨hv, ho⟩
  · have HV := Lib.hid hv
    clear hv
    go_enter Try.func28, Try.ntmps28
    go_wp2_with fail
    refine (valid_any C N capc c _ H.out.1 hN H.out.2.2.1).mono ?_
    rintro e w1 ⟨rfl, hb⟩
    rw [HV.out]
    have HB := Lib.hid hb
    clear hb
    go_wp2_with fail
    go_ret2
    exact ⟨rfl, HB.out⟩
  · have hp := valC_pow hv
    have HV := Lib.hid (And.intro hv (And.intro ho hp))
    obtain ⟨n, hn⟩ : ∃ n, n = plr c := ⟨_, rfl⟩
    have HN := Lib.hid hn
    have hn4 : 1 ≤ n ∧ n ≤ 4 := by rw [hn]; exact hp.2
    have hN16 : 2 ≤ N ∧ N ≤ 16 := by have := (valC_iff.1 hv).1; have := H.out.1; omega
    clear hv ho hp hn
    go_enter Try.func28, Try.ntmps28
    go_wp2_with fail
    refine (valid_any C N capc c _ H.out.1 hN H.out.2.2.1).mono ?_
    rintro e w1 ⟨rfl, hb⟩
    rw [HV.out.1]
    have HB := Lib.hid hb
    clear hb
    go_wp2_with fail
    refine (gisorder_any _ N _ A m cap l n _ H.out.2.1 hm hn4.1 hn4.2 (by rw [← H.out.1, HN.out]; exact HV.out.2.2.1) (H.out.2.2.2.below HB.out)).mono ?_
    rintro e w' ⟨rfl, rfl⟩
    rw [HN.out, HV.out.2.1]
    go_wp2_with fail
    go_ret2
    exact ⟨rfl, HB.out⟩
end Go.Proofs.Ytbidboagaoifaaa
