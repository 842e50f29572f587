/- GamesFair returns true for every two slices: the walk. -/
import Derived.Test.YtbidboagaoifaaaAwake
import Derived.Test.YtbidboagaoifaaaDesc
import Derived.Test.YtbidboagaoifaaaPays
import Derived.Test.YtbidboagaoifaaaFairLaw2
import Derived.Test.YtbidboagaoifaaaPlayers
import Derived.StillTailTactics
import Derived.Deep.RegionHeld3
import Derived.Deep.AppendLies
import Derived.Deep.DeepCutAuto
namespace Go.Proofs.Ytbidboagaoifaaa
open Go.RowKit

theorem low_small {q : Rat} (h : smallQ q) : lowB q.num (q.den : Int) = true := by
  obtain ⟨h1, h2, h3⟩ := h
  have := den_pos q
  simp only [lowB, rat_lowest, Bool.and_eq_true, decide_eq_true_eq]
  exact ⟨⟨by omega, by omega⟩, rfl⟩

set_option maxRecDepth 100000 in
set_option maxHeartbeats 4000000 in
theorem fair_ok (ad ae : Addr) (n cap : Nat) (D : Option Addr) (m capd : Nat) (c d : List Int) (w : World) (hl : c.length = n) (hcp : n ≤ cap) (hm : cap ≤ 9223372036854775807) (hld : d.length = m) (hmd : m ≤ capd) (hcd : capd ≤ 9223372036854775807)
    (hv : valC c = true) (hc : Ints w (some ad) c) (hd : Ints w D d) :
    Calls Try.prog 3 #[.slice (some ad) n cap, .slice D m capd] w fun e w' => e = .returned (.bool true) ∧ Below w.heap.size w w' := by
  have hp := valC_pow hv
  have hlen := (valC_iff.1 hv).1
  have h18 : c.take 18 = c := take18 (by omega)
  have hn18 : min n 18 = n := by omega
  obtain ⟨np, hnp⟩ : ∃ np, np = plr c := ⟨_, rfl⟩
  rw [← hnp] at hp
  have H := Lib.hid (And.intro hl (And.intro hv (And.intro hc (And.intro hd (And.intro hld (And.intro hp (And.intro h18 (And.intro hn18 hnp))))))))
  have hnp4 : 1 ≤ np ∧ np ≤ 4 := hp.2
  have hN16 : 2 ≤ n ∧ n ≤ 16 := by omega
  clear hl hv hc hd hld hp h18 hn18 hlen hnp
  go_enter Try.func3, Try.ntmps3
  go_wp2_with fail
  obtain ⟨hl, hv, hc, hd, hld, hp, h18, hn18, hnp⟩ := H.out
  refine (list_any (some ad) n cap c _ hl hcp hm hc).mono ?_
  rintro e w1 ⟨A1, c1, rfl, hown, hb⟩
  rw [hn18] at hown ⊢
  rw [h18] at hown
  have hI : Ints w1 A1 c := At.of_own hown
  have H1 := Lib.hid (And.intro hI hb)
  clear hown hI hb hl hv hc hd hld hp h18 hn18 hnp
  go_wp2_with fail
  refine (shapley_ok A1 n c1 c _ H.out.1 H1.out.1 H.out.2.1).mono ?_
  rintro e w2 ⟨A2, c2, rfl, hown, hb2⟩
  have hbl2 : Below w.heap.size w w2 := H1.out.2.trans (hb2.mono H1.out.2.size)
  have hF : Fracs w2 A2 (shapL c (plr c)) := At.of_own hown
  have hnp := H.out.2.2.2.2.2.2.2.2
  rw [← hnp] at hF ⊢
  have H2 := Lib.hid (And.intro hF hbl2)
  clear hown hF hb2 hbl2 hnp
  go_wp2_with fail
  refine (rplayers_any (some ad) n cap c _ H.out.1 (by omega) (H.out.2.2.1.below H2.out.2)).mono ?_
  rintro e w' ⟨rfl, rfl⟩
  rw [← H.out.2.2.2.2.2.2.2.2]
  have hne : ((np : Int) == 0) = false := by simp; omega
  go_wp2_with fail
  obtain ⟨a2, rfl, _, hcell⟩ := H2.out.1.some_ (by rw [shapL_length]; omega)
  have HCX := Lib.hid hcell
  clear hcell
  go_loopw [49] (fun iv wr => ∃ k : Nat, k ≤ np ∧ iv = .int .i64 k ∧ Below w2.heap.size w2 wr) (fun iv _ => np - (intOf iv).toNat)
  case atStart => exact ⟨0, Nat.zero_le _, rfl, Below.refl _ _⟩
  case round =>
    obtain ⟨k, hk, rfl, hbl⟩ := hrel
    by_cases hlt : k < np
    --[L1
    · obtain ⟨q, hq⟩ : ∃ q, (shapL c np)[k]? = some q := ⟨_, List.getElem?_eq_getElem (by rw [shapL_length]; exact hlt)⟩
      have hsq := shapL_small (valC_iff.1 H.out.2.1).2.2 hnp4.2 q (List.mem_of_getElem? hq)
      have d1 := (hbl.cell (lt_of_cell (HCX.out k q hq).1)).trans (HCX.out k q hq).1
      have d2 := (hbl.cell (lt_of_cell (HCX.out k q hq).2)).trans (HCX.out k q hq).2
      have HQ := Lib.hid (And.intro hsq (low_small hsq))
      have hq3 : 1 ≤ (q.den : Int) ∧ (q.den : Int) ≤ 24 ∧ -100000 ≤ q.num ∧ q.num ≤ 100000 := ⟨den_pos q, hsq.1, hsq.2.1, hsq.2.2⟩
      have HB := Lib.hid hbl
      have hwz := hbl.size
      clear hsq hq hbl
      go_wp2_with fail
      refine (rlowest_any q.num q.den _ (by omega) (by omega) (by omega)).mono ?_
      rintro e w3 ⟨rfl, hb3⟩
      rw [HQ.out.2]
      have hB3 : Blk w3 wr.heap.size 31 #[.int .i64 q.num, .int .i64 (q.den : Int)] := (Blk.new _ _ _ rfl).below hb3 (by go_size)
      obtain ⟨r1, r2, _, _⟩ := hB3.at2
      have HB3 := Lib.hid ((HB.out.alloc hwz (.cells #[.int .i64 q.num, .int .i64 (q.den : Int)] 31)).trans (hb3.mono (by simp; omega)))
      clear hB3 hb3
      go_wp2
      go_roundw
      case rel => exact ⟨k + 1, by omega, by go_num, HB3.out⟩
      case measure => simp [intOf]; omega
    --]L1
    · obtain rfl : k = np := by omega
      have HB := Lib.hid hbl
      clear hbl hlt hk
      obtain ⟨x, hx⟩ : ∃ x, c[n - 1]? = some x := ⟨_, List.getElem?_eq_getElem (by have := H.out.1; omega)⟩
      have hcc := (H.out.2.2.1.below (H2.out.2.trans (HB.out.mono H2.out.2.size)))
      have x1 := At.some2 hcc (n - 1) (.int .i64 x) (by simp [hx])
      have HX := Lib.hid hx
      have hpw : (2 : Int) ^ k = (n : Int) := by
        have := H.out.2.2.2.2.2.1.1
        rw [H.out.1] at this
        rw [this]; simp
      obtain ⟨n1, hn1⟩ : ∃ n1, n1 + 1 = n := ⟨n - 1, by omega⟩
      have en1 : n - 1 = n1 := by omega
      rw [en1] at x1
      have e0 : IntKind.i64.wrap ((2 : Int) ^ k) = (n : Int) := by rw [hpw]; exact IntWalk.i64_in _ (by omega)
      have e1 : IntKind.i64.wrap ((n : Int) - 1) = (n1 : Int) := by rw [IntWalk.i64_in _ (by omega)]; omega
      have l1 : (n1 : Int) < (n : Int) := by omega
      have l2 : (0 : Int) ≤ (n1 : Int) := by omega
      have HN1 := Lib.hid (And.intro hn1 hpw)
      clear hx hcc hpw hn1 en1
      have hsm := shapL_small (valC_iff.1 H.out.2.1).2.2 hnp4.2
      have hFr : Fracs wr (some a2) (shapL c k) := H2.out.1.below HB.out
      have HP := Lib.hid (And.intro hsm hFr)
      have HS : Hid (paysL (shapL c k) n1 = (x : Rat)) := Lib.hid (by
        have h := shap_sum hnp4 H.out.2.2.2.2.2.1.1 (by
          have h0 := (valC_iff.1 H.out.2.1).2.1
          have : c.getD 0 0 = c.getD 0 1 := by rw [List.getD_eq_getElem?_getD, List.getD_eq_getElem?_getD, List.getElem?_eq_getElem (by have := H.out.1; omega)]; rfl
          omega)
        have e2 : 2 ^ k - 1 = n1 := by have := H.out.2.2.2.2.2.1.1; have := H.out.1; have := HN1.out.1; omega
        rw [e2] at h
        rw [h]
        have e3 : n - 1 = n1 := by have := HN1.out.1; omega
        rw [List.getD_eq_getElem?_getD, ← e3, HX.out]; rfl)
      clear hsm hFr
      go_wp2_with fail
      go_region_held3 (fun w' => w'.cell? (ad.add n1) = some (.int .i64 x))
        (first | assumption | exact (hb3.cell (lt_of_cell (by assumption))).trans (by assumption) | exact (hb4.cell (lt_of_cell (by assumption))).trans (by assumption))
        (first
          | (go_at_call 23; refine (rpays_any (some a2) k c2 n1 (shapL c k) wr.drew (shapL_length c k) hnp4.2 (by omega) HP.out.1 HP.out.2).mono ?_; rintro e w3 ⟨rfl, hb3⟩; rw [HS.out, fr_int])
          | (go_at_call 24; refine (lwhole_any x _).mono ?_; rintro e w4 ⟨rfl, hb4⟩; rw [fr_int]))
      have hB5 : Below w2.heap.size w2 w4 := (HB.out.drew.trans (hb3.mono (by have := HB.out.size; simpa using this))).trans (hb4.mono (Nat.le_trans HB.out.size hb3.size))
      have HB5 := Lib.hid hB5
      clear hB5 hb3 hb4 HS HP l1 l2 e0 e1 x1 HB
      go_wp2_with fail
      go_loopw [86] (fun iv wr => ∃ i : Nat, i ≤ k ∧ iv = .int .i64 i ∧ Below w2.heap.size w2 wr) (fun iv _ => k - (intOf iv).toNat)
      case atStart => exact ⟨0, Nat.zero_le _, rfl, HB5.out⟩
      case round =>
        obtain ⟨i, hi, rfl, hbl⟩ := hrel
        by_cases hlt : i < k
        --[L2
        · have HBi := Lib.hid hbl
          clear hbl
          go_wp2_with fail
          go_loopw [11, 91] (fun rv sv wr => ∃ s : Nat, s ≤ n ∧ sv = .int .i64 s ∧ rv = .bool (raisesTo c i s) ∧ Below w2.heap.size w2 wr) (fun _ sv _ => n - (intOf sv).toNat)
          case atStart => exact ⟨0, Nat.zero_le _, rfl, rfl, HBi.out⟩
          case round =>
            obtain ⟨s, hs, rfl, rfl, hbl⟩ := hrel
            by_cases hls : s < n
            --[L3
            · have HBs := Lib.hid hbl
              cases hr : raisesTo c i s
              · have hp2 : c.length = 2 ^ k := H.out.2.2.2.2.2.1.1
                have hlc := H.out.1
                have hlt2 : s ||| 2 ^ i < n := by rw [← hlc, hp2]; exact or_pow_lt (by rw [← hp2, hlc]; exact hls) hlt
                have e1 := or_pow s i (by omega) (by omega)
                obtain ⟨s', hs'⟩ : ∃ s', s' = s ||| 2 ^ i := ⟨_, rfl⟩
                rw [← hs'] at e1 hlt2
                obtain ⟨y1, hy1⟩ : ∃ y, c[s']? = some y := ⟨_, List.getElem?_eq_getElem (by omega)⟩
                obtain ⟨y0, hy0⟩ : ∃ y, c[s]? = some y := ⟨_, List.getElem?_eq_getElem (by omega)⟩
                have hcc := At.some2 (H.out.2.2.1.below (H2.out.2.trans (hbl.mono H2.out.2.size)))
                have x1 := hcc s' (.int .i64 y1) (by simp [hy1])
                have x0 := hcc s (.int .i64 y0) (by simp [hy0])
                have hsucc : raisesTo c i (s + 1) = decide (y1 ≠ y0) := by
                  rw [raisesTo_succ, hr, ← hs', List.getD_eq_getElem?_getD, List.getD_eq_getElem?_getD, hy1, hy0]; rfl
                have l1 : (s' : Int) < (n : Int) := by omega
                have l2 : (0 : Int) ≤ (s' : Int) := by omega
                have l3 : (s : Int) < (n : Int) := by omega
                have l4 : (0 : Int) ≤ (s : Int) := by omega
                have HSU := Lib.hid hsucc
                clear hp2 hlc hs' hy1 hy0 hcc hsucc hbl
                by_cases he : y1 = y0
                · subst he
                  go_wp2_with fail
                  go_quiet (fail)
                  go_wp2_with fail
                  go_roundw
                  case rel => exact ⟨s + 1, by omega, by go_num, by rw [HSU.out]; simp, below_drewN HBs.out _⟩
                  case measure => simp [intOf]; omega
                · have hne : (y1 != y0) = true := by simpa using he
                  have HE := Lib.hid he
                  clear he
                  go_wp2_with fail
                  go_quiet (fail)
                  go_wp2_with fail
                  go_roundw
                  case rel => exact ⟨s + 1, by omega, by go_num, by rw [HSU.out, decide_eq_true HE.out], below_drewN HBs.out _⟩
                  case measure => simp [intOf]; omega
              · have HSU : Hid (raisesTo c i (s + 1) = true) := Lib.hid (by rw [raisesTo_succ, hr]; rfl)
                clear hbl
                go_wp2_with fail
                go_quiet (fail)
                go_wp2_with fail
                go_roundw
                case rel => exact ⟨s + 1, by omega, by go_num, by rw [HSU.out], below_drewN HBs.out _⟩
                case measure => simp [intOf]; omega
            --]L3
            · obtain rfl : s = n := by omega
              have HBs := Lib.hid hbl
              clear hbl
              obtain ⟨q, hq⟩ : ∃ q, (shapL c k)[i]? = some q := ⟨_, List.getElem?_eq_getElem (by rw [shapL_length]; exact hlt)⟩
              have hqz : raisesTo c i s = false → q = 0 := fun h => by
                have hl2 := H.out.2.2.2.2.2.1.1
                have h1 := shap_null hnp4 hlt hl2 (by rw [← hl2, H.out.1]; exact h)
                rwa [List.getD_eq_getElem?_getD, hq] at h1
              have d1 := (HBs.out.cell (lt_of_cell (HCX.out i q hq).1)).trans (HCX.out i q hq).1
              have d2 := (HBs.out.cell (lt_of_cell (HCX.out i q hq).2)).trans (HCX.out i q hq).2
              have HQ := Lib.hid (And.intro hq hqz)
              have l3 : (i : Int) < (k : Int) := by omega
              have l4 : (0 : Int) ≤ (i : Int) := by omega
              clear hq hqz
              go_upto_region 22 with fail
              go_cut [11, 119] (fun _ v wx => v = .bool false ∧ Below w2.heap.size w2 wx)
              case first =>
                --[R22
                cases hr : raisesTo c i s
                · have hq0 : q = 0 := HQ.out.2 hr
                  have HQ0 := Lib.hid hq0
                  subst hq0
                  go_region_held3 (fun w' => w'.cell? (a2.add (i * 2)) = some (.int .i64 (0 : Rat).num) ∧ w'.cell? ⟨(a2.add (i * 2)).block, (a2.add (i * 2)).off + 1, none⟩ = some (.int .i64 ((0 : Rat).den : Int)))
                    (first | assumption | (constructor <;> first | assumption | exact (hb4.cell (lt_of_cell (by assumption))).trans (by assumption)))
                    (first
                      | (go_at_call 24; refine (lwhole_any 0 _).mono ?_; rintro e w4 ⟨rfl, hb4⟩; rw [fr_int]))
                  all_goals (go_wp2_with fail; go_meet; exact ⟨rfl, HBs.out.drew.trans (hb4.mono HBs.out.size)⟩)
                · go_quiet (fail)
                  go_wp2_with fail
                  go_meet
                  exact ⟨rfl, below_drewN HBs.out _⟩
                --]R22
              case rest =>
                obtain ⟨rfl, hblc⟩ := hcut
                have HBc := Lib.hid hblc
                clear hblc d1 d2
                go_wp2_with fail
                go_loopw [121] (fun iv wr => ∃ j : Nat, j ≤ i ∧ iv = .int .i64 j ∧ Below w2.heap.size w2 wr) (fun iv _ => i - (intOf iv).toNat)
                case atStart => exact ⟨0, Nat.zero_le _, rfl, HBc.out⟩
                case round =>
                  obtain ⟨j, hj, rfl, hbl⟩ := hrel
                  have HBj := Lib.hid hbl
                  clear hbl
                  by_cases hlj : j < i
                  · go_wp2_with fail
                    go_loopw [14, 126] (fun rv sv wr => ∃ t : Nat, t ≤ s ∧ sv = .int .i64 t ∧ rv = .bool (alikeTo c i j t) ∧ Below w2.heap.size w2 wr) (fun _ sv _ => s - (intOf sv).toNat)
                    case atStart => exact ⟨0, Nat.zero_le _, rfl, rfl, HBj.out⟩
                    case round =>
                      obtain ⟨t, ht, rfl, rfl, hbl⟩ := hrel
                      have HBt := Lib.hid hbl
                      by_cases hlt2 : t < s
                      --[L5
                      · cases hA : alikeTo c i j t
                        · have HSU : Hid (alikeTo c i j (t + 1) = false) := Lib.hid (by rw [alikeTo_succ, hA]; rfl)
                          clear hbl
                          go_wp2_with fail
                          go_quiet (fail)
                          go_wp2_with fail
                          go_roundw
                          case rel => exact ⟨t + 1, by omega, by go_num, by rw [HSU.out], below_drewN HBt.out _⟩
                          case measure => simp [intOf]; omega
                        · cases hbi : t.testBit i
                          · cases hbj : t.testBit j
                            · have hp2 : c.length = 2 ^ k := H.out.2.2.2.2.2.1.1
                              have hlc := H.out.1
                              have hl1 : t ||| 2 ^ i < s := by rw [← hlc, hp2]; exact or_pow_lt (by rw [← hp2, hlc]; exact hlt2) hlt
                              have hl2 : t ||| 2 ^ j < s := by rw [← hlc, hp2]; exact or_pow_lt (by rw [← hp2, hlc]; exact hlt2) (by omega)
                              have e1 := or_pow t i (by omega) (by omega)
                              have e2 := or_pow t j (by omega) (by omega)
                              obtain ⟨s1, hs1⟩ : ∃ s', s' = t ||| 2 ^ i := ⟨_, rfl⟩
                              obtain ⟨s2, hs2⟩ : ∃ s', s' = t ||| 2 ^ j := ⟨_, rfl⟩
                              rw [← hs1] at e1 hl1
                              rw [← hs2] at e2 hl2
                              obtain ⟨y1, hy1⟩ : ∃ y, c[s1]? = some y := ⟨_, List.getElem?_eq_getElem (by omega)⟩
                              obtain ⟨y2, hy2⟩ : ∃ y, c[s2]? = some y := ⟨_, List.getElem?_eq_getElem (by omega)⟩
                              have hcc := At.some2 (H.out.2.2.1.below (H2.out.2.trans (hbl.mono H2.out.2.size)))
                              have x1 := hcc s1 (.int .i64 y1) (by simp [hy1])
                              have x2 := hcc s2 (.int .i64 y2) (by simp [hy2])
                              have hsucc : alikeTo c i j (t + 1) = decide (y1 = y2) := by
                                rw [alikeTo_succ, hA, alikeAt, hbi, hbj, ← hs1, ← hs2, List.getD_eq_getElem?_getD, List.getD_eq_getElem?_getD, hy1, hy2]; rfl
                              have b1 := and_shr_f (set := t) (k := i) (by omega) hbi
                              have b2 := and_shr_f (set := t) (k := j) (by omega) hbj
                              have m1 : (s1 : Int) < (s : Int) := by omega
                              have m2 : (0 : Int) ≤ (s1 : Int) := by omega
                              have m3 : (s2 : Int) < (s : Int) := by omega
                              have m4 : (0 : Int) ≤ (s2 : Int) := by omega
                              have HSU := Lib.hid hsucc
                              clear hp2 hlc hs1 hs2 hy1 hy2 hcc hsucc hbl hbi hbj
                              by_cases he : y1 = y2
                              · subst he
                                go_wp2_with fail
                                go_quiet (fail)
                                go_wp2_with fail
                                go_roundw
                                case rel => exact ⟨t + 1, by omega, by go_num, by rw [HSU.out]; simp, below_drewN HBt.out _⟩
                                case measure => simp [intOf]; omega
                              · have hne : (y1 == y2) = false := by simpa using he
                                have HE := Lib.hid he
                                clear he
                                go_wp2_with fail
                                go_quiet (fail)
                                go_wp2_with fail
                                go_roundw
                                case rel => exact ⟨t + 1, by omega, by go_num, by rw [HSU.out, decide_eq_false HE.out], below_drewN HBt.out _⟩
                                case measure => simp [intOf]; omega
                            · have HSU : Hid (alikeTo c i j (t + 1) = true) := Lib.hid (by rw [alikeTo_succ, hA, alikeAt, hbi, hbj]; rfl)
                              have b1 := and_shr_f (set := t) (k := i) (by omega) hbi
                              have b2 := and_shr_t (set := t) (k := j) (by omega) hbj
                              clear hbl hbi hbj
                              go_wp2_with fail
                              go_quiet (fail)
                              go_wp2_with fail
                              go_roundw
                              case rel => exact ⟨t + 1, by omega, by go_num, by rw [HSU.out], below_drewN HBt.out _⟩
                              case measure => simp [intOf]; omega
                          · have HSU : Hid (alikeTo c i j (t + 1) = true) := Lib.hid (by rw [alikeTo_succ, hA, alikeAt, hbi]; rfl)
                            have b1 := and_shr_t (set := t) (k := i) (by omega) hbi
                            clear hbl hbi
                            go_wp2_with fail
                            go_quiet (fail)
                            go_wp2_with fail
                            go_roundw
                            case rel => exact ⟨t + 1, by omega, by go_num, by rw [HSU.out], below_drewN HBt.out _⟩
                            case measure => simp [intOf]; omega
                      --]L5
                      · obtain rfl : t = s := by omega
                        clear hbl
                        obtain ⟨p, hpj⟩ : ∃ q, (shapL c k)[j]? = some q := ⟨_, List.getElem?_eq_getElem (by rw [shapL_length]; omega)⟩
                        have hqp : alikeTo c i j t = true → q = p := fun h => by
                          have hl2 := H.out.2.2.2.2.2.1.1
                          have h1 := shap_sym hnp4 hlt hlj hl2 (by rw [← hl2, H.out.1]; exact h)
                          rw [List.getD_eq_getElem?_getD, List.getD_eq_getElem?_getD, HQ.out.1, hpj] at h1
                          exact h1
                        have d1 := (HBt.out.cell (lt_of_cell (HCX.out i q HQ.out.1).1)).trans (HCX.out i q HQ.out.1).1
                        have d2 := (HBt.out.cell (lt_of_cell (HCX.out i q HQ.out.1).2)).trans (HCX.out i q HQ.out.1).2
                        have d3 := (HBt.out.cell (lt_of_cell (HCX.out j p hpj).1)).trans (HCX.out j p hpj).1
                        have d4 := (HBt.out.cell (lt_of_cell (HCX.out j p hpj).2)).trans (HCX.out j p hpj).2
                        have l5 : (j : Int) < (k : Int) := by omega
                        have l6 : (0 : Int) ≤ (j : Int) := by omega
                        have HQP := Lib.hid hqp
                        clear hqp hpj
                        cases hA : alikeTo c i j t
                        · go_wp2_with fail
                          go_quiet (fail)
                          go_wp2_with fail
                          go_roundw
                          case rel => exact ⟨j + 1, by omega, by go_num, below_drewN HBt.out _⟩
                          case measure => simp [intOf]; omega
                        · have he : q = p := HQP.out hA
                          clear HQP
                          subst he
                          go_wp2_with fail
                          go_quiet (fail)
                          go_wp2_with fail
                          go_roundw
                          case rel => exact ⟨j + 1, by omega, by go_num, below_drewN HBt.out _⟩
                          case measure => simp [intOf]; omega
                  · go_wp2_with fail
                    go_roundw
                    case rel => exact ⟨i + 1, by omega, by go_num, HBj.out⟩
                    case measure => simp [intOf]; omega
        --]L2
        · obtain rfl : i = k := by omega
          have HUP : Hid (∀ w', Below w2.heap.size w2 w' → Below w.heap.size w w') := Lib.hid fun w' h => H2.out.2.trans (h.mono H2.out.2.size)
          have HB6 := Lib.hid hbl
          clear hbl
          by_cases hmn : m = n
          · subst hmn
            have hd18 : d.take 18 = d := take18 (by have := H.out.2.2.2.2.1; omega)
            have hm18 : min m 18 = m := by omega
            go_wp2_with fail
            refine (list_any D m capd d _ H.out.2.2.2.2.1 hmd hcd (H.out.2.2.2.1.below (HUP.out _ HB6.out))).mono ?_
            rintro e w5 ⟨A5, c5, rfl, hown5, hb5⟩
            rw [hm18] at hown5 ⊢
            rw [hd18] at hown5
            have hI5 : Ints w5 A5 d := At.of_own hown5
            have H5 := Lib.hid (And.intro hI5 (HB6.out.trans (hb5.mono HB6.out.size)))
            clear hown5 hI5 hb5 hd18 hm18
            go_wp2_with fail
            refine (shapley_any A5 m c5 d _ H.out.2.2.2.2.1 (by omega) H5.out.1).mono ?_
            rintro e w6 ⟨A6, k6, c6, ec6, rfl, hR6, hb6⟩
            have H6 := Lib.hid (And.intro hR6 (H5.out.2.trans (hb6.mono H5.out.2.size)))
            clear hR6 hb6
            go_wp2_with fail
            go_loopw [17, 190] (fun ov sv wr => ∃ (s : Nat) (A : Option Addr) (cp : Nat), s ≤ m ∧ sv = .int .i64 s ∧ ov = .slice A s cp ∧ wr.ownsRow w6.heap.size 3 1 (.slice A s cp) s ((sumTo c d s).map (Value.int .i64)) ∧ Below w6.heap.size w6 wr) (fun _ sv _ => m - (intOf sv).toNat)
            case atStart => exact ⟨0, none, 0, Nat.zero_le _, rfl, rfl, World.ownsRow_nil _ _ _ _, Below.refl _ _⟩
            case round =>
              obtain ⟨s, A, cp, hs, rfl, rfl, hown, hbl⟩ := hrel
              by_cases hls : s < m
              --[L6
              · obtain ⟨y1, hy1⟩ : ∃ y, c[s]? = some y := ⟨_, List.getElem?_eq_getElem (by have := H.out.1; omega)⟩
                obtain ⟨y2, hy2⟩ : ∃ y, d[s]? = some y := ⟨_, List.getElem?_eq_getElem (by have := H.out.2.2.2.2.1; omega)⟩
                have hb0 := HUP.out _ (H6.out.2.trans (hbl.mono H6.out.2.size))
                have hb6' := HUP.out _ H6.out.2
                have g1 := lt_of_cell (At.some2 (H.out.2.2.1.below hb6') s (.int .i64 y1) (by simp [hy1]))
                have x1 := At.some2 (H.out.2.2.1.below hb0) s (.int .i64 y1) (by simp [hy1])
                obtain ⟨ad2, hD, _, hdc⟩ := (H.out.2.2.2.1.below hb0).some_ (by have := H.out.2.2.2.2.1; omega)
                have g2 : (ad2.add s).block < w6.heap.size := by
                  obtain ⟨ad3, hD3, _, hdc3⟩ := (H.out.2.2.2.1.below hb6').some_ (by have := H.out.2.2.2.2.1; omega)
                  rw [hD] at hD3; injection hD3 with hD3; subst hD3
                  exact lt_of_cell (hdc3 s y2 hy2)
                subst hD
                have x2 := hdc s y2 hy2
                have HSU : Hid ((sumTo c d (s + 1)).map (Value.int .i64) = (sumTo c d s).map (Value.int .i64) ++ [.int .i64 (IntKind.i64.wrap (y1 + y2))]) := Lib.hid (by
                  rw [sumTo_succ hy1 hy2]; simp)
                have HR := Lib.hid (And.intro hown hbl)
                have l1 : (s : Int) < (m : Int) := by omega
                have l2 : (0 : Int) ≤ (s : Int) := by omega
                have hws := hbl.size
                have hs16 : s ≤ 16 := by omega
                clear hown hbl hb0 hb6' hy1 hy2 hdc
                go_wp2_with fail
                go_region_held3 (fun w' => w'.cell? (ad.add s) = some (.int .i64 y1) ∧ w'.cell? (ad2.add s) = some (.int .i64 y2))
                  (first | go_keep | (constructor <;> first | assumption | exact (hbl4.cell g1).trans (by assumption) | exact (hbl4.cell g2).trans (by assumption)))
                  ((refine step_app1 (w := wr.drew) sty_int (by rfl) _ _ (by rfl) w6.heap.size A s cp _ #[.int .i64 (IntKind.i64.wrap (y1 + y2))] (by rfl) (by simp [Value.oneCell']) (by rfl) HR.out.1.drew (by rfl) (by omega) hws ?_; intro A4 k4 w7 hown4 hg4 hbl4 hk41 hk42))
                rw [← HSU.out] at hown4
                have HR4 := Lib.hid (And.intro hown4 (HR.out.2.drew.trans hbl4))
                clear hown4 hg4 hbl4
                go_wp2_with fail
                go_roundw
                case rel => exact ⟨s + 1, A4, k4, by omega, by go_num, rfl, HR4.out.1, HR4.out.2⟩
                case measure => simp [intOf]; omega
              --]L6
              · obtain rfl : s = m := by omega
                have hbl7 := H6.out.2.trans (hbl.mono H6.out.2.size)
                have hIs : Ints wr A (sumTo c d s) := At.of_own hown
                have H7 := Lib.hid (And.intro hIs (And.intro hbl7 hbl))
                clear hown hbl hbl7 hIs
                go_wp2_with fail
                refine (shapley_any A s cp (sumTo c d s) _ (sumTo_length _ _ _) (by omega) H7.out.1).mono ?_
                rintro e w8 ⟨A8, k8, c8, ec8, rfl, hR8, hb8⟩
                have H8 := Lib.hid (And.intro hR8 (And.intro (H7.out.2.1.trans (hb8.mono H7.out.2.1.size)) (H7.out.2.2.trans (hb8.mono H7.out.2.2.size))))
                clear hR8 hb8
                rcases H6.out.1 with ⟨v6, rfl, hk6, own6⟩ | ⟨v6, rfl, rfl, rfl, rfl⟩
                · rcases H8.out.1 with ⟨v8, rfl, hk8, own8⟩ | ⟨v8, rfl, rfl, rfl, rfl⟩
                  · have ek6 : plr d = i := by rw [H.out.2.2.2.2.2.2.2.2]; exact plr_len v6 H.out.2.1 (by rw [H.out.1, H.out.2.2.2.2.1])
                    have ek8 : plr (sumTo c d s) = i := by rw [H.out.2.2.2.2.2.2.2.2]; exact plr_len v8 H.out.2.1 (by rw [H.out.1, sumTo_length])
                    rw [ek6] at hk6 own6
                    rw [ek8] at hk8 own8
                    subst hk6
                    subst hk8
                    obtain ⟨i, hi0⟩ : ∃ i', i' = k8 := ⟨_, rfl⟩
                    subst hi0
                    have hsm := shapL_small (valC_iff.1 v6).2.2 hnp4.2
                    have hsmx := shapL_small (valC_iff.1 H.out.2.1).2.2 hnp4.2
                    have hF6 : Fracs w8 A6 (shapL d i) := (show Fracs w6 A6 (shapL d i) from At.of_own own6).below H8.out.2.2
                    have hF8 : Fracs w8 A8 (shapL (sumTo c d s) i) := At.of_own own8
                    have hadd := shap_add hnp4 (by rw [← H.out.1]; exact H.out.2.2.2.2.2.1.1) H.out.1 H.out.2.2.2.2.1 H.out.2.1 v6
                    obtain ⟨a6, h6, _, hc6⟩ := hF6.some_ (by rw [shapL_length]; omega)
                    obtain ⟨a8, h8, _, hc8⟩ := hF8.some_ (by rw [shapL_length]; omega)
                    subst h6
                    subst h8
                    have hcx : ∀ (t : Nat) (q : Rat), (shapL c i)[t]? = some q → w8.cell? (a2.add (t * 2)) = some (.int .i64 q.num) ∧ w8.cell? ⟨(a2.add (t * 2)).block, (a2.add (t * 2)).off + 1, none⟩ = some (.int .i64 (q.den : Int)) := fun t q hq =>
                      ⟨(H8.out.2.1.cell (lt_of_cell (HCX.out t q hq).1)).trans (HCX.out t q hq).1, (H8.out.2.1.cell (lt_of_cell (HCX.out t q hq).2)).trans (HCX.out t q hq).2⟩
                    have H9 := Lib.hid (And.intro hsm (And.intro hsmx (And.intro hc6 (And.intro hc8 (And.intro hcx hadd)))))
                    clear hsm hsmx hF6 hF8 hadd hc6 hc8 hcx own6 own8 v6 v8 ek6 ek8
                    go_wp2_with fail
                    go_loopw [227] (fun iv wr => ∃ j : Nat, j ≤ i ∧ iv = .int .i64 j ∧ Below w8.heap.size w8 wr) (fun iv _ => i - (intOf iv).toNat)
                    case atStart => exact ⟨0, Nat.zero_le _, rfl, Below.refl _ _⟩
                    case round =>
                      obtain ⟨j, hj, rfl, hbl⟩ := hrel
                      by_cases hlj : j < i
                      --[L8
                      · obtain ⟨qx, hqx⟩ : ∃ q, (shapL c i)[j]? = some q := ⟨_, List.getElem?_eq_getElem (by rw [shapL_length]; omega)⟩
                        obtain ⟨qy, hqy⟩ : ∃ q, (shapL d i)[j]? = some q := ⟨_, List.getElem?_eq_getElem (by rw [shapL_length]; omega)⟩
                        obtain ⟨qz, hqz⟩ : ∃ q, (shapL (sumTo c d s) i)[j]? = some q := ⟨_, List.getElem?_eq_getElem (by rw [shapL_length]; omega)⟩
                        obtain ⟨hsm, hsmx, hc6, hc8, hcx, hadd⟩ := H9.out
                        have hz : qz = qx + qy := by
                          have h := hadd j hlj
                          rw [List.getD_eq_getElem?_getD, List.getD_eq_getElem?_getD, List.getD_eq_getElem?_getD, hqx, hqy, hqz] at h
                          exact h
                        have sx := hsmx qx (List.mem_of_getElem? hqx)
                        have sy := hsm qy (List.mem_of_getElem? hqy)
                        have d1 : ∀ s : Desc wr, s.val.cell? (a2.add (j * 2)) = some (.int .i64 qx.num) := fun s => s.cell ((hbl.cell (lt_of_cell (hcx j qx hqx).1)).trans (hcx j qx hqx).1)
                        have d2 : ∀ s : Desc wr, s.val.cell? ⟨(a2.add (j * 2)).block, (a2.add (j * 2)).off + 1, none⟩ = some (.int .i64 (qx.den : Int)) := fun s => s.cell ((hbl.cell (lt_of_cell (hcx j qx hqx).2)).trans (hcx j qx hqx).2)
                        have d3 : ∀ s : Desc wr, s.val.cell? (a6.add (j * 2)) = some (.int .i64 qy.num) := fun s => s.cell ((hbl.cell (lt_of_cell (hc6 j qy hqy).1)).trans (hc6 j qy hqy).1)
                        have d4 : ∀ s : Desc wr, s.val.cell? ⟨(a6.add (j * 2)).block, (a6.add (j * 2)).off + 1, none⟩ = some (.int .i64 (qy.den : Int)) := fun s => s.cell ((hbl.cell (lt_of_cell (hc6 j qy hqy).2)).trans (hc6 j qy hqy).2)
                        have d5 : ∀ s : Desc wr, s.val.cell? (a8.add (j * 2)) = some (.int .i64 qz.num) := fun s => s.cell ((hbl.cell (lt_of_cell (hc8 j qz hqz).1)).trans (hc8 j qz hqz).1)
                        have d6 : ∀ s : Desc wr, s.val.cell? ⟨(a8.add (j * 2)).block, (a8.add (j * 2)).off + 1, none⟩ = some (.int .i64 (qz.den : Int)) := fun s => s.cell ((hbl.cell (lt_of_cell (hc8 j qz hqz).2)).trans (hc8 j qz hqz).2)
                        have HQ := Lib.hid (And.intro hz (And.intro (low_small sy) (prod_bds_small sx sy)))
                        have hy3 : 1 ≤ (qy.den : Int) ∧ (qy.den : Int) ≤ 24 ∧ -100000 ≤ qy.num ∧ qy.num ≤ 100000 := ⟨den_pos qy, sy.1, sy.2.1, sy.2.2⟩
                        have l3 : (j : Int) < (i : Int) := by omega
                        have l4 : (0 : Int) ≤ (j : Int) := by omega
                        have hd24 : decide ((24 : Int) < (qy.den : Int)) = false := decide_eq_false (by omega)
                        have HBj := Lib.hid hbl
                        have hws := hbl.size
                        have HLOW : Hid (∀ s : Desc wr, Calls Try.prog 22 #[.agg #[.int .i64 qy.num, .int .i64 (qy.den : Int)]] s.val fun e w'' => e = .returned (.bool true) ∧ ∃ s' : Desc wr, w'' = s'.val) := Lib.hid fun s =>
                          Calls.desc_of ((rlowest_any qy.num qy.den _ (by omega) (by omega) (by omega)).mono fun e w' h => ⟨by rw [h.1, HQ.out.2.1], h.2⟩)
                        have HADD : Hid (∀ s : Desc wr, Calls Try.prog 25 #[.agg #[.int .i64 qx.num, .int .i64 (qx.den : Int)], .agg #[.int .i64 qy.num, .int .i64 (qy.den : Int)]] s.val fun e w'' => e = .returned (.agg #[.int .i64 qz.num, .int .i64 (qz.den : Int)]) ∧ ∃ s' : Desc wr, w'' = s'.val) := Lib.hid fun s =>
                          Calls.desc_of ((radd_raw qx qy _ HQ.out.2.2.1 HQ.out.2.2.2.1 HQ.out.2.2.2.2.1 HQ.out.2.2.2.2.2.1 HQ.out.2.2.2.2.2.2).mono fun e w' h => ⟨by rw [h.1, ← HQ.out.1]; rfl, h.2⟩)
                        clear hsm hsmx hc6 hc8 hcx hadd hqx hqy hqz hz sx sy hbl
                        go_wp2_with fail
                        refine wp_region_desc (by kernel_rfl) (by kernel_rfl) ?_
                        repeat (go_big_quiet_step (first | (go_at_call 22; exact HLOW.out _) | (go_at_call 25; exact HADD.out _)))
                        refine wpQuiet_nil ?_
                        rintro _ ⟨sd, rfl⟩
                        have HBE := Lib.hid (HBj.out.trans (sd.below.mono hws))
                        clear d1 d2 d3 d4 d5 d6
                        go_wp2_with fail
                        go_roundw
                        case rel => exact ⟨j + 1, by omega, by go_num, HBE.out⟩
                        case measure => simp [intOf]; omega
                      --]L8
                      · obtain rfl : j = i := by omega
                        have HB9 := Lib.hid (H8.out.2.1.trans (hbl.mono H8.out.2.1.size))
                        clear hbl
                        go_wp2_with fail
                        refine (awake_any _).mono ?_
                        rintro e w9 ⟨rfl, hb9⟩
                        have HB10 := Lib.hid (HB9.out.trans (hb9.mono HB9.out.size))
                        clear hb9
                        go_wp2_with fail
                        go_ret
                        exact ⟨rfl, HUP.out _ HB10.out⟩
                  · clear hk6 own6 v6 v8
                    go_wp2_with fail
                    refine (awake_any _).mono ?_
                    rintro e w9 ⟨rfl, hb9⟩
                    have HB9 := Lib.hid (H8.out.2.1.trans (hb9.mono H8.out.2.1.size))
                    clear hb9
                    go_wp2_with fail
                    go_ret
                    exact ⟨rfl, HUP.out _ HB9.out⟩
                · clear v6
                  go_wp2_with fail
                  refine (awake_any _).mono ?_
                  rintro e w9 ⟨rfl, hb9⟩
                  have HB9 := Lib.hid (H8.out.2.1.trans (hb9.mono H8.out.2.1.size))
                  clear hb9
                  go_wp2_with fail
                  go_ret
                  exact ⟨rfl, HUP.out _ HB9.out⟩
          · have hne2 : ((m : Int) != (n : Int)) = true := by rw [bne_iff_ne]; omega
            go_wp2_with fail
            refine (awake_any _).mono ?_
            rintro e w5 ⟨rfl, hb5⟩
            have HB7 := Lib.hid (HB6.out.trans (hb5.mono HB6.out.size))
            clear hb5
            go_wp2_with fail
            go_ret
            exact ⟨rfl, HUP.out _ HB7.out⟩
end Go.Proofs.Ytbidboagaoifaaa
