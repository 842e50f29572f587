/- Laws and contracts that the proof of GamesTimes uses, part 6. -/
import Derived.Test.YtbidboagaoifaaaGamesTimesM5
import Derived.Test.YtbidboagaoifaaaGamesTimesM2
import Derived.Test.YtbidboagaoifaaaGamesTimesM1
import Derived.Test.YtbidboagaoifaaaGamesTimesM4
import Derived.StillTailTactics
import Derived.Deep.RegionHeld3
import Derived.Deep.AppendLies
import Derived.Deep.DeepCutAuto
namespace Go.Proofs.Ytbidboagaoifaaa
open Go.RowKit

/- GamesConvex returns true for every costs and order: the walk. -/

def shapQ (c : List Int) : List Rat := if valC c then shapL c (plr c) else []
def shapE (c : List Int) : Int := if valC c then 0 else 2
theorem shapley2_any (A : Option Addr) (n cap : Nat) (c : List Int) (w : World) (hl : c.length = n) (hm : n ≤ 9223372036854775807) (h : Ints w A c) :
    Calls Try.prog 18 #[.slice A n cap] w fun e w' => ∃ A' k c', e = .returned (.tuple #[.slice A' k c', .int .i64 (shapE c)]) ∧ (shapQ c).length = k ∧ Fracs w' A' (shapQ c) ∧ Below w.heap.size w w' := by
  refine (shapley_any A n cap c w hl hm h).mono ?_
  rintro e w' ⟨A', k, c', ec, rfl, ⟨hv, rfl, rfl, hown⟩ | ⟨hv, rfl, rfl, rfl, rfl⟩, hb⟩
  · have e1 : shapQ c = shapL c (plr c) := by simp [shapQ, hv]
    refine ⟨A', plr c, c', by simp [shapE, hv], by rw [e1]; simp [shapL, sumsL, addAll_length], ?_, hb⟩
    rw [e1]
    exact At.of_own hown
  · refine ⟨none, 0, 0, by simp [shapE, hv], by simp [shapQ, hv], ?_, hb⟩
    have e1 : shapQ c = [] := by simp [shapQ, hv]
    rw [e1]
    intro i v hv
    simp [fcells] at hv
theorem shapQ_take (c : List Int) : shapQ (c.take 18) = shapQ c := by
  cases hv : valC c
  · simp [shapQ, hv, valC_take]
  · rw [take18 (by have := (valC_iff.1 hv).1; omega)]
theorem shapE_take (c : List Int) : shapE (c.take 18) = shapE c := by unfold shapE; rw [valC_take]
theorem small_bd {qs : List Rat} (h : ∀ q ∈ qs, smallQ q) : ∀ p ∈ qs.map pr, (-9223372036854775808 ≤ p.1 ∧ p.1 ≤ 9223372036854775807) ∧ -9223372036854775808 ≤ p.2 ∧ p.2 ≤ 9223372036854775807 := by
  intro p hp
  obtain ⟨q, hq, rfl⟩ := List.mem_map.1 hp
  have := h q hq
  unfold smallQ at this
  have := den_pos q
  unfold pr
  dsimp only
  omega

set_option maxRecDepth 100000 in
set_option maxHeartbeats 4000000 in
theorem law_convex (A : Option Addr) (n cap : Nat) (c : List Int) (O : Option Addr) (m capo : Nat) (l : List Int) (w : World)
    (hl : c.length = n) (hcp : n ≤ cap) (hm : cap ≤ 9223372036854775807) (hc : Ints w A c) (_ : ∀ x ∈ c, -9223372036854775808 ≤ x ∧ x ≤ 9223372036854775807)
    (hlo : l.length = m) (hmo : m ≤ capo) (hco : capo ≤ 9223372036854775807) (ho : Ints w O l) (_ : ∀ x ∈ l, -9223372036854775808 ≤ x ∧ x ≤ 9223372036854775807) :
    Calls Try.prog 15 #[.slice A n cap, .slice O m capo] w fun e w' => e = .returned (.bool true) ∧ Below w.heap.size w w' := by
  have H := Lib.hid (And.intro hl (And.intro hc (And.intro hlo ho)))
  clear hl hc hlo ho
  go_enter Try.func15, Try.ntmps15
  go_wp2_with fail
  refine (list_any A n cap c _ H.out.1 hcp hm H.out.2.1).mono ?_
  rintro e w1 ⟨A1, c1, rfl, hown, hb⟩
  have hI : Ints w1 A1 (c.take 18) := At.of_own hown
  have hlt : (c.take 18).length = min n 18 := by rw [List.length_take, H.out.1]; omega
  have H1 := Lib.hid (And.intro hI (And.intro hb hlt))
  clear hown hb hI hlt
  go_wp2_with fail
  refine (concave2_any A1 (min n 18) c1 (c.take 18) _ H1.out.2.2 (by omega) H1.out.1).mono ?_
  rintro e w2 ⟨rfl, hb2⟩
  rw [concA_take]
  have HB2 := Lib.hid (H1.out.2.1.trans (hb2.mono H1.out.2.1.size))
  clear hb2
  cases hv : valC c
  · have HG : Hid (concA c = (0, 0, 2)) := Lib.hid (by simp [concA, hv])
    rw [HG.out]
    clear hv
    dsimp only
    go_wp2_with fail
    refine (awake_any _).mono ?_
    rintro e w3 ⟨rfl, hb3⟩
    have HB3 := Lib.hid (HB2.out.trans (hb3.mono HB2.out.size))
    clear hb3
    go_wp2_with fail
    go_ret
    exact ⟨rfl, HB3.out⟩
  · have hp := valC_pow hv
    have hcb := (valC_iff.1 hv).2.2
    have hlen := (valC_iff.1 hv).1
    have hn16 : 2 ≤ n ∧ n ≤ 16 := by have := H.out.1; omega
    obtain ⟨ad, rfl, _, hc0⟩ := H.out.2.1.some_ (by omega)
    have HV := Lib.hid (And.intro hv (And.intro hp hcb))
    rcases concL_cases c with ⟨a, b, hab, ha, hb, hbad⟩ | ⟨hab, hno⟩
    · have HG : Hid (concA c = (a, b, 0)) := Lib.hid (by simp [concA, hv, hab])
      rw [HG.out]
      rw [H.out.1] at ha hb
      have hor : a ||| b < n := by
        rw [← H.out.1, hp.1]; exact Nat.or_lt_two_pow (by rw [← hp.1, H.out.1]; exact ha) (by rw [← hp.1, H.out.1]; exact hb)
      have hand : a &&& b < n := and_lt ha
      obtain ⟨s1, hs1⟩ : ∃ s, s = a ||| b := ⟨_, rfl⟩
      obtain ⟨s2, hs2⟩ : ∃ s, s = a &&& b := ⟨_, rfl⟩
      have e1 := or_nat a b (by omega) (by omega)
      have e2 := and_nat a b (by omega) (by omega)
      rw [← hs1] at e1 hor
      rw [← hs2] at e2 hand
      have hlc := H.out.1
      obtain ⟨y1, hy1⟩ : ∃ y, c[s1]? = some y := ⟨_, List.getElem?_eq_getElem (by omega)⟩
      obtain ⟨y2, hy2⟩ : ∃ y, c[s2]? = some y := ⟨_, List.getElem?_eq_getElem (by omega)⟩
      obtain ⟨y3, hy3⟩ : ∃ y, c[a]? = some y := ⟨_, List.getElem?_eq_getElem (by omega)⟩
      obtain ⟨y4, hy4⟩ : ∃ y, c[b]? = some y := ⟨_, List.getElem?_eq_getElem (by omega)⟩
      have b1 := hcb y1 (List.mem_of_getElem? hy1)
      have b2 := hcb y2 (List.mem_of_getElem? hy2)
      have b3 := hcb y3 (List.mem_of_getElem? hy3)
      have b4 := hcb y4 (List.mem_of_getElem? hy4)
      have c1' : ∀ s : Desc w2, s.val.cell? (ad.add s1) = some (.int .i64 y1) := fun s => s.cell ((HB2.out.cell (lt_of_cell (hc0 _ _ hy1))).trans (hc0 _ _ hy1))
      have c2' : ∀ s : Desc w2, s.val.cell? (ad.add s2) = some (.int .i64 y2) := fun s => s.cell ((HB2.out.cell (lt_of_cell (hc0 _ _ hy2))).trans (hc0 _ _ hy2))
      have c3' : ∀ s : Desc w2, s.val.cell? (ad.add a) = some (.int .i64 y3) := fun s => s.cell ((HB2.out.cell (lt_of_cell (hc0 _ _ hy3))).trans (hc0 _ _ hy3))
      have c4' : ∀ s : Desc w2, s.val.cell? (ad.add b) = some (.int .i64 y4) := fun s => s.cell ((HB2.out.cell (lt_of_cell (hc0 _ _ hy4))).trans (hc0 _ _ hy4))
      have hlt : y3 + y4 < y1 + y2 := by
        unfold badB at hbad
        rw [← hs1, ← hs2, List.getD_eq_getElem?_getD, List.getD_eq_getElem?_getD, List.getD_eq_getElem?_getD, List.getD_eq_getElem?_getD, hy1, hy2, hy3, hy4] at hbad
        exact of_decide_eq_true hbad
      have v1 : IntKind.i64.wrap (y1 + y2) = y1 + y2 := IntWalk.i64_in _ (by omega)
      have v2 : IntKind.i64.wrap (y3 + y4) = y3 + y4 := IntWalk.i64_in _ (by omega)
      have hd : decide (y3 + y4 < y1 + y2) = true := by simpa using hlt
      have la : ¬ (a : Int) < 0 := by omega
      have lb : ¬ (b : Int) < 0 := by omega
      have lga : decide ((a : Int) ≥ (n : Int)) = false := by simp; omega
      have lgb : decide ((b : Int) ≥ (n : Int)) = false := by simp; omega
      have HAW : Hid (∀ s : Desc w2, Calls Try.prog 21 #[] s.val fun e w'' => e = .returned (.bool true) ∧ ∃ s' : Desc w2, w'' = s'.val) := Lib.hid fun s => Calls.desc_of (awake_any _)
      clear hbad hy1 hy2 hy3 hy4 hs1 hs2 hv hc0 hp hcb hlen hab hlc
      dsimp only
      go_wp2_with fail
      refine wp_region_desc (by kernel_rfl) (by kernel_rfl) ?_
      repeat (go_big_quiet_step (first | (go_at_call 21; exact HAW.out _)))
      refine wpQuiet_nil ?_
      rintro _ ⟨sd, rfl⟩
      have HBE := Lib.hid (HB2.out.trans (sd.below.mono HB2.out.size))
      clear c1' c2' c3' c4'
      go_wp2_with fail
      go_ret
      exact ⟨rfl, HBE.out⟩
    · have HC := Lib.hid (conc_of hno)
      have HG : Hid (concA c = (0, 0, 4)) := Lib.hid (by simp [concA, hv, hab])
      rw [HG.out]
      clear hab hno hc0 hcb hlen
      dsimp only
      go_wp2_with fail
      refine (list_any (some ad) n cap c _ H.out.1 hcp hm (H.out.2.1.below HB2.out)).mono ?_
      rintro e w3 ⟨A3, c3, rfl, hown, hb⟩
      have hI : Ints w3 A3 (c.take 18) := At.of_own hown
      have H3 := Lib.hid (And.intro hI (HB2.out.trans (hb.mono HB2.out.size)))
      clear hown hb hI
      go_wp2_with fail
      refine (shapley2_any A3 (min n 18) c3 (c.take 18) _ H1.out.2.2 (by omega) H3.out.1).mono ?_
      rintro e w4 ⟨A4, k4, c4, rfl, hk, hF, hb⟩
      rw [shapQ_take] at hk hF
      have hsq : shapQ c = shapL c (plr c) := by simp [shapQ, hv]
      have hse : shapE (c.take 18) = 0 := by rw [shapE_take]; simp [shapE, hv]
      have hcs := shap_cc hv HC.out
      rw [hse]
      rw [hsq] at hk hF
      have hk4 : k4 ≤ 4 := by
        rw [← hk]; simp [shapL, sumsL, addAll_length]; exact hp.2.2
      have H4 := Lib.hid (And.intro hk (And.intro hF (And.intro (H3.out.2.trans (hb.mono H3.out.2.size)) (And.intro hcs (small_bd (shapL_small HV.out.2.2 hp.2.2))))))
      clear hk hF hb hsq hse hcs
      go_wp2_with fail
      refine (list_any (some ad) n cap c _ H.out.1 hcp hm (H.out.2.1.below H4.out.2.2.1)).mono ?_
      rintro e w5 ⟨A5, c5, rfl, hown, hb⟩
      have hI : Ints w5 A5 (c.take 18) := At.of_own hown
      have H5 := Lib.hid (And.intro hI (And.intro (H4.out.2.2.1.trans (hb.mono H4.out.2.2.1.size)) (H4.out.2.1.below hb)))
      clear hown hb hI
      go_wp2_with fail
      refine (checkcore_any A5 (min n 18) c5 A4 k4 c4 (c.take 18) ((shapL c (plr c)).map pr) _ H1.out.2.2 (by omega) (by rw [List.length_map]; exact H4.out.1) (by omega) H5.out.1 H5.out.2.2.prs H4.out.2.2.2.2).mono ?_
      rintro e w6 ⟨rfl, hb6⟩
      have hce : ccE c = 0 := by simp [ccE, hv]
      rw [ccB_take18, ccE_take, H4.out.2.2.2.1.1, hce]
      have HCE := Lib.hid hce
      have HB6 := Lib.hid (H5.out.2.1.trans (hb6.mono H5.out.2.1.size))
      clear hb6 hce
      go_wp2_with fail
      refine (list_any (some ad) n cap c _ H.out.1 hcp hm (H.out.2.1.below HB6.out)).mono ?_
      rintro e w7 ⟨A7, c7, rfl, hown, hb⟩
      have hI : Ints w7 A7 (c.take 18) := At.of_own hown
      have H7 := Lib.hid (And.intro hI (HB6.out.trans (hb.mono HB6.out.size)))
      clear hown hb hI
      go_wp2_with fail
      refine (refute2_any A7 (min n 18) c7 (c.take 18) _ H1.out.2.2 (by omega) H7.out.1).mono ?_
      rintro e w8 ⟨A8, k8, c8, rfl, _, _, _, _, hb8⟩
      have hrf : rfE (c.take 18) = 4 := by rw [rfE_take]; simp [rfE, hv, H4.out.2.2.2.1.2]
      rw [hrf]
      have HB8 := Lib.hid (H7.out.2.trans (hb8.mono H7.out.2.size))
      clear hb8 hrf
      go_wp2_with fail
      refine (list_any (some ad) n cap c _ H.out.1 hcp hm (H.out.2.1.below HB8.out)).mono ?_
      rintro e w9 ⟨A9, c9, rfl, hown, hb⟩
      have hI : Ints w9 A9 (c.take 18) := At.of_own hown
      have H9 := Lib.hid (And.intro hI (HB8.out.trans (hb.mono HB8.out.size)))
      clear hown hb hI
      go_wp2_with fail
      refine (list_any O m capo l _ H.out.2.2.1 hmo hco (H.out.2.2.2.below H9.out.2)).mono ?_
      rintro e w10 ⟨A10, c10, rfl, hown, hb⟩
      have hI : Ints w10 A10 (l.take 18) := At.of_own hown
      have hlt : (l.take 18).length = min m 18 := by rw [List.length_take, H.out.2.2.1]; omega
      have H10 := Lib.hid (And.intro hI (And.intro (H9.out.2.trans (hb.mono H9.out.2.size)) (And.intro hlt (H9.out.1.below hb))))
      clear hown hb hI hlt
      go_wp2_with fail
      refine (join2_any A9 (min n 18) c9 A10 (min m 18) c10 c l _ H1.out.2.2 H10.out.2.2.1 H10.out.2.2.2 H10.out.1).mono ?_
      rintro e w11 ⟨A11, k11, c11, rfl, hk, hJ, hb⟩
      cases hor : ordR (plr c) l
      · have hje : joinE c l = 2 := by simp [joinE, hv, hor]
        have H11 := Lib.hid (H10.out.2.1.trans (hb.mono H10.out.2.1.size))
        rw [hje]
        clear hk hJ hb hje hor hv
        go_wp2_with fail
        refine (awake_any _).mono ?_
        rintro e w12 ⟨rfl, hb12⟩
        have HB12 := Lib.hid (H11.out.trans (hb12.mono H11.out.size))
        clear hb12
        go_wp2_with fail
        go_ret
        exact ⟨rfl, HB12.out⟩
      · have hje : joinE c l = 0 := by simp [joinE, hv, hor]
        rw [hv, hor] at hk
        have hk' : k11 = plr c := hk
        have hjc := joinA_core hv HC.out hor
        have hk4' : k11 ≤ 4 := by rw [hk']; exact hp.2.2
        have H11 := Lib.hid (And.intro (H10.out.2.1.trans (hb.mono H10.out.2.1.size)) (And.intro hJ (And.intro hjc hk')))
        rw [hje]
        clear hk hJ hb hje hor hv hk' hjc hp
        go_wp2_with fail
        have hst := H11.out.1
        go_loopw [15, 128] (fun ov iv wr => ∃ (j : Nat) (B : Option Addr) (bc : Nat), j ≤ k11 ∧ iv = .int .i64 j ∧ ov = .slice B j bc ∧ wr.ownsRow w11.heap.size 31 2 (.slice B j bc) j (fcells (wholes ((joinA c l).take j))) ∧ Below w11.heap.size w11 wr) (fun _ iv _ => k11 - (intOf iv).toNat)
        case atStart => exact ⟨0, none, 0, Nat.zero_le _, rfl, rfl, World.ownsRow_nil _ _ _ _, Below.refl _ _⟩
        case round =>
          obtain ⟨j, B, bc, hj, rfl, rfl, hown, hbl⟩ := hrel
          have HR := Lib.hid (And.intro hown hbl)
          clear hown
          by_cases hlt : j < k11
          · have hjl : (joinA c l).length = k11 := by rw [H11.out.2.2.1.1, H11.out.2.2.2]
            obtain ⟨aj, rfl, _, hcj⟩ := H11.out.2.1.some_ (by omega)
            obtain ⟨y, hy⟩ : ∃ y, (joinA c l)[j]? = some y := ⟨_, List.getElem?_eq_getElem (by omega)⟩
            have g1 := (hbl.cell (lt_of_cell (hcj _ _ hy))).trans (hcj _ _ hy)
            have HNEW : Hid (fcells (wholes ((joinA c l).take (j + 1))) = fcells (wholes ((joinA c l).take j)) ++ [.int .i64 y, .int .i64 1]) := Lib.hid (by
              rw [List.take_add_one, hy]
              unfold wholes
              rw [List.map_append]
              exact fcells_snoc _ _)
            clear hbl hst hcj hy hjl
            go_wp2_with fail
            refine (lwhole_any y _).mono ?_
            rintro e w12 ⟨rfl, hb12⟩
            rw [fr_int]
            have HR2 := Lib.hid (And.intro (own_below HR.out.1 hb12) (HR.out.2.trans (hb12.mono HR.out.2.size)))
            clear hb12
            have hw12 := HR2.out.2.size
            go_wp2_with (at_builtin; refine app1 sty_frac rfl _ _ rfl w11.heap.size B j bc _ #[.int .i64 y, .int .i64 1] rfl (by simp [Value.oneCell']) rfl HR2.out.1 rfl (by omega) hw12 ?_)
            intro A13 k13 w13 hown13 _ hbl13 hk131 hk132
            rw [← HNEW.out] at hown13
            have HR4 := Lib.hid (And.intro hown13 (HR2.out.2.trans hbl13))
            clear hown13 hbl13
            go_wp2_with fail
            go_roundw
            case rel => exact ⟨j + 1, A13, k13, by omega, by go_num, rfl, HR4.out.1, HR4.out.2⟩
            case measure => simp [intOf]; omega
          · obtain rfl : j = k11 := by omega
            have hjl : (joinA c l).length = j := by rw [H11.out.2.2.1.1, H11.out.2.2.2]
            have hF : Fracs wr B (wholes (joinA c l)) := by
              have := At.of_own HR.out.1
              rw [List.take_of_length_le (by omega)] at this
              exact this
            have hsm : ∀ q ∈ wholes (joinA c l), smallQ q := by
              intro q hq
              obtain ⟨y, hy, rfl⟩ := List.mem_map.1 hq
              have := H11.out.2.2.1.2.2 y hy
              unfold smallQ
              rw [Rat.den_intCast, Rat.num_intCast]
              omega
            have HF := Lib.hid (And.intro hF (And.intro (small_bd hsm) (And.intro (H11.out.1.trans (hbl.mono H11.out.1.size)) hjl)))
            clear hF hsm hbl hst hjl
            go_wp2_with fail
            refine (list_any (some ad) n cap c _ H.out.1 hcp hm (H.out.2.1.below HF.out.2.2.1)).mono ?_
            rintro e w14 ⟨A14, c14, rfl, hown, hb⟩
            have hI : Ints w14 A14 (c.take 18) := At.of_own hown
            have H14 := Lib.hid (And.intro hI (And.intro (HF.out.2.2.1.trans (hb.mono HF.out.2.2.1.size)) (HF.out.1.below hb)))
            clear hown hb hI
            go_wp2_with fail
            refine (checkcore_any A14 (min n 18) c14 B j bc (c.take 18) ((wholes (joinA c l)).map pr) _ H1.out.2.2 (by omega) (by rw [List.length_map]; unfold wholes; rw [List.length_map]; exact HF.out.2.2.2) (by omega) H14.out.1 H14.out.2.2.prs HF.out.2.1).mono ?_
            rintro e w15 ⟨rfl, hb15⟩
            rw [ccB_take18, ccE_take, H11.out.2.2.1.2.1, HCE.out]
            have HB15 := Lib.hid (H14.out.2.1.trans (hb15.mono H14.out.2.1.size))
            clear hb15
            go_wp2_with fail
            refine (awake_any _).mono ?_
            rintro e w16 ⟨rfl, hb16⟩
            have HB16 := Lib.hid (HB15.out.trans (hb16.mono HB15.out.size))
            clear hb16
            go_wp2_with fail
            go_ret
            exact ⟨rfl, HB16.out⟩

/- A small fraction is in lowest terms, as Lowest sees it. -/

theorem low_small {q : Rat} (h : smallQ q) : lowB q.num (q.den : Int) = true := by
  obtain ⟨h1, h2, h3⟩ := h
  have := den_pos q
  simp only [lowB, rat_lowest, Bool.and_eq_true, decide_eq_true_eq]
  exact ⟨⟨by omega, by omega⟩, rfl⟩


/- GamesTimes returns true for every costs and number: the walk. -/

theorem by6_of (x : Int) : ∃ c : Nat, (1 ≤ c ∧ c ≤ 6) ∧ wrap64 (1 + wrap64 ((IntKind.u64.wrap x).tmod 6)) = (c : Int) := by
  obtain ⟨p, hp, e⟩ := idx_of x (k := 6) (by omega) (by omega)
  rw [e]
  clear e
  have hr : 1 ≤ 1 + (p : Int) ∧ 1 + (p : Int) ≤ 6 := by omega
  refine ⟨1 + p, by omega, ?_⟩
  rw [show ((1 + p : Nat) : Int) = 1 + (p : Int) from by omega]
  generalize 1 + (p : Int) = r at *
  unfold wrap64
  go_num
theorem shapQ_ok {c : List Int} (hv : valC c = true) : shapQ c = shapL c (plr c) := by simp [shapQ, hv]
theorem mul_bds {q : Rat} {k : Nat} (h : smallQ q) (hk : k ≤ 6) : -4000000000000000000 ≤ q.num * ((k : Int) : Rat).num ∧ q.num * ((k : Int) : Rat).num ≤ 4000000000000000000 ∧ (q.den : Int) * (((k : Int) : Rat).den : Int) ≤ 4000000000000000000 := by
  unfold smallQ at h
  rw [Rat.num_intCast, Rat.den_intCast]
  have h1 := mul_bd (m := 100000) (a := q.num) (b := (k : Int)) (n := 6) (by omega) (by omega) (by omega) (by omega)
  omega

set_option maxRecDepth 100000 in
set_option maxHeartbeats 4000000 in
theorem law_times (A : Option Addr) (n cap : Nat) (c : List Int) (by_ : Int) (w : World)
    (hl : c.length = n) (hcp : n ≤ cap) (hm : cap ≤ 9223372036854775807) (hc : Ints w A c) (_ : ∀ x ∈ c, -9223372036854775808 ≤ x ∧ x ≤ 9223372036854775807) (_hby : -9223372036854775808 ≤ by_ ∧ by_ ≤ 9223372036854775807) :
    Calls Try.prog 12 #[.slice A n cap, .int .i64 by_] w fun e w' => e = .returned (.bool true) ∧ Below w.heap.size w w' := by
  have H := Lib.hid (And.intro hl hc)
  clear hl hc
  go_enter Try.func12, Try.ntmps12
  go_wp2_with fail
  refine (list_any A n cap c _ H.out.1 hcp hm H.out.2).mono ?_
  rintro e w1 ⟨A1, c1, rfl, hown, hb⟩
  have hI : Ints w1 A1 (c.take 18) := At.of_own hown
  have hlt : (c.take 18).length = min n 18 := by rw [List.length_take, H.out.1]; omega
  have H1 := Lib.hid (And.intro hI (And.intro hb hlt))
  clear hown hb hI hlt
  go_wp2_with fail
  refine (shapley2_any A1 (min n 18) c1 (c.take 18) _ H1.out.2.2 (by omega) H1.out.1).mono ?_
  rintro e w2 ⟨A2, k2, c2, rfl, hk, hF, hb⟩
  rw [shapQ_take] at hk hF
  rw [shapE_take]
  have H2 := Lib.hid (And.intro hk (And.intro hF (H1.out.2.1.trans (hb.mono H1.out.2.1.size))))
  clear hk hF hb
  go_wp2_with fail
  refine (rplayers_any A n cap c _ H.out.1 (by omega) (H.out.2.below H2.out.2.2)).mono ?_
  rintro e w' ⟨rfl, rfl⟩
  cases hv : valC c
  · have HG : Hid (shapE c = 2) := Lib.hid (by simp [shapE, hv])
    rw [HG.out, plr_bad hv]
    clear hv
    go_wp2_with fail
    refine (awake_any _).mono ?_
    rintro e w3 ⟨rfl, hb3⟩
    have HB3 := Lib.hid (H2.out.2.2.trans (hb3.mono H2.out.2.2.size))
    clear hb3
    go_wp2_with fail
    go_ret
    exact ⟨rfl, HB3.out⟩
  · have hp := valC_pow hv
    have hcb := (valC_iff.1 hv).2.2
    have hlen := (valC_iff.1 hv).1
    have hn16 : 2 ≤ n ∧ n ≤ 16 := by have := H.out.1; omega
    have hx18 : c.take 18 = c := take18 (by omega)
    have hmn : min n 18 = n := by omega
    obtain ⟨q, hq⟩ : ∃ q, q = plr c := ⟨_, rfl⟩
    rw [← hq] at hp
    have hq4 : 1 ≤ q ∧ q ≤ 4 := hp.2
    have hkq : k2 = q := by rw [← H2.out.1, shapQ_ok hv, shapL_length, hq]
    subst hkq
    have hsm := shapL_small hcb hp.2.2
    have HG : Hid (shapE c = 0) := Lib.hid (by simp [shapE, hv])
    have HV := Lib.hid (And.intro hv (And.intro hp (And.intro hcb (And.intro hx18 (And.intro hsm hq)))))
    have hne : ((k2 : Int) == 0) = false := by simp; omega
    obtain ⟨a2, hA2, _, hcell⟩ := H2.out.2.1.some_ (by rw [H2.out.1]; omega)
    rw [shapQ_ok hv, ← hq] at hcell
    have HCX := Lib.hid hcell
    subst hA2
    rw [HG.out, ← hq]
    clear hv hp hcb hlen hx18 hsm hq hcell
    go_wp2_with fail
    obtain ⟨b, hbb, hbe⟩ := by6_of by_
    rw [hbe]
    clear hbe _hby
    refine (list_any A n cap c _ H.out.1 hcp hm (H.out.2.below H2.out.2.2)).mono ?_
    rintro e w3 ⟨A3, c3, rfl, hown, hb⟩
    rw [hmn, HV.out.2.2.2.1] at hown
    rw [hmn]
    clear hmn
    obtain ⟨g, rfl, hg, hg2⟩ := own_some hown (by omega)
    obtain ⟨_, _, he, hcp1, hcp2, _⟩ := own_form hown
    injection he with e1 _ e3
    subst e1; subst e3
    have hS0 := ScB.of_own hown
    have hw2 := H2.out.2.2.size
    have H3 := Lib.hid (And.intro hS0 (And.intro hb (H2.out.2.2.trans (hb.mono hw2))))
    clear hown hb hS0
    go_wp2_with fail
    go_loopw [56] (fun iv wr => ∃ k : Nat, k ≤ n ∧ iv = .int .i64 k ∧ ScB wr g n c3 (timesTo c b k) ∧ Below w2.heap.size w2 wr) (fun iv _ => n - (intOf iv).toNat)
    case atStart => exact ⟨0, Nat.zero_le _, rfl, by rw [timesTo_zero]; exact H3.out.1, H3.out.2.1⟩
    case round =>
      obtain ⟨k, hk, rfl, hsb, hbw⟩ := hrel
      have HR := Lib.hid (And.intro hsb hbw)
      clear hsb hbw
      by_cases hlt : k < n
      · obtain ⟨x, hx⟩ : ∃ x, c[k]? = some x := ⟨_, List.getElem?_eq_getElem (by rw [H.out.1]; exact hlt)⟩
        have hxb := HV.out.2.2.1 x (List.mem_of_getElem? hx)
        have hr1 : wr.cell? ⟨g, k, none⟩ = some (.int .i64 x) := HR.out.1.read (timesTo_get hx)
        have hf1 := HR.out.1.frozen k
        have hxc1 : 0 ≤ x * (b : Int) := Int.mul_nonneg hxb.1 (by omega)
        have hxc2 : x * (b : Int) ≤ 1000 * (b : Int) := Int.mul_le_mul_of_nonneg_right hxb.2 (by omega)
        have hxc : 0 ≤ x * (b : Int) ∧ x * (b : Int) ≤ 6000 := by omega
        clear hxc1 hxc2
        have hS1 := HR.out.1.set_ k (x * (b : Int))
        rw [timesTo_succ hx] at hS1
        have HS := Lib.hid hS1
        clear hx hS1
        go_wp2_with fail
        go_roundw
        case rel => exact ⟨k + 1, by omega, by go_num, HS.out, HR.out.2.setCell hg _⟩
        case measure => simp [intOf]; omega
      · obtain rfl : k = n := by omega
        have hS := HR.out.1
        rw [show k = c.length from H.out.1.symm, timesTo_all] at hS
        have hI' := hS.ints
        have hld : (timesL c b).length = k := by rw [timesL_length, H.out.1]
        have H4 := Lib.hid (And.intro hI' (And.intro hld (H2.out.2.2.trans (HR.out.2.mono hw2))))
        clear hS hI' hld
        go_wp2_with fail
        refine (shapley2_any (some ⟨g, 0, none⟩) k c3 (timesL c b) _ H4.out.2.1 (by omega) H4.out.1).mono ?_
        rintro e w5 ⟨A5, k5, c5, rfl, hk5, hF5, hb5⟩
        have hw4 := H4.out.2.2.size
        have H5 := Lib.hid (And.intro hk5 (And.intro hF5 (And.intro (H4.out.2.2.trans (hb5.mono hw4)) (And.intro (H4.out.1.below hb5) (HR.out.2.trans (hb5.mono (HR.out.2.size)))))))
        clear hk5 hF5 hb5
        cases hv2 : valC (timesL c b)
        · have HG2 : Hid (shapE (timesL c b) = 2) := Lib.hid (by simp [shapE, hv2])
          rw [HG2.out]
          clear hv2
          go_wp2_with fail
          refine (awake_any _).mono ?_
          rintro e w6 ⟨rfl, hb6⟩
          have HB6 := Lib.hid (H5.out.2.2.1.trans (hb6.mono H5.out.2.2.1.size))
          clear hb6
          go_wp2_with fail
          go_ret
          exact ⟨rfl, HB6.out⟩
        · have HG2 : Hid (shapE (timesL c b) = 0) := Lib.hid (by simp [shapE, hv2])
          have hpd : plr (timesL c b) = k2 := by rw [HV.out.2.2.2.2.2]; exact plr_len hv2 HV.out.1 (timesL_length c b)
          obtain rfl : k5 = k2 := by rw [← H5.out.1, shapQ_ok hv2, shapL_length, hpd]
          obtain ⟨a5, hA5, _, hcell5⟩ := H5.out.2.1.some_ (by rw [H5.out.1]; omega)
          rw [shapQ_ok hv2, hpd] at hcell5
          subst hA5
          have hmul : ∀ i, i < k5 → (shapL (timesL c b) k5).getD i 0 = (shapL c k5).getD i 0 * ((b : Int) : Rat) := by
            intro i hi
            have := shap_times (c := c) hq4 HV.out.2.1.1 (b - 1) i hi
            rwa [show b - 1 + 1 = b from by omega] at this
          have hce := times_core (k := b) hbb.1 HV.out.1 hv2
          have hcc := times_conc (k := b) hbb.1 HV.out.1 hv2
          have H6 := Lib.hid (And.intro hcell5 (And.intro hmul (And.intro hce hcc)))
          rw [HG2.out]
          clear hcell5 hmul hce hcc hpd hv2
          go_wp2_with fail
          go_loopw [80] (fun iv wr => ∃ j : Nat, j ≤ k5 ∧ iv = .int .i64 j ∧ Below w5.heap.size w5 wr) (fun iv _ => k5 - (intOf iv).toNat)
          case atStart => exact ⟨0, Nat.zero_le _, rfl, Below.refl _ _⟩
          case round =>
            obtain ⟨j, hj, rfl, hbl⟩ := hrel
            by_cases hlj : j < k5
            · obtain ⟨qx, hqx⟩ : ∃ q, (shapL c k5)[j]? = some q := ⟨_, List.getElem?_eq_getElem (by rw [shapL_length]; exact hlj)⟩
              obtain ⟨qy, hqy⟩ : ∃ q, (shapL (timesL c b) k5)[j]? = some q := ⟨_, List.getElem?_eq_getElem (by rw [shapL_length]; exact hlj)⟩
              have hz : qy = qx * ((b : Int) : Rat) := by
                have h := H6.out.2.1 j hlj
                rw [List.getD_eq_getElem?_getD, List.getD_eq_getElem?_getD, hqx, hqy] at h
                exact h
              have sx := HV.out.2.2.2.2.1 qx (List.mem_of_getElem? hqx)
              have hb25 : Below w2.heap.size w2 w5 := H5.out.2.2.2.2
              have hbz : Below w2.heap.size w2 wr := hb25.trans (hbl.mono hb25.size)
              have d1 : ∀ s : Desc wr, s.val.cell? (a2.add (j * 2)) = some (.int .i64 qx.num) := fun s => s.cell ((hbz.cell (lt_of_cell (HCX.out j qx hqx).1)).trans (HCX.out j qx hqx).1)
              have d2 : ∀ s : Desc wr, s.val.cell? ⟨(a2.add (j * 2)).block, (a2.add (j * 2)).off + 1, none⟩ = some (.int .i64 (qx.den : Int)) := fun s => s.cell ((hbz.cell (lt_of_cell (HCX.out j qx hqx).2)).trans (HCX.out j qx hqx).2)
              have d3 : ∀ s : Desc wr, s.val.cell? (a5.add (j * 2)) = some (.int .i64 qy.num) := fun s => s.cell ((hbl.cell (lt_of_cell (H6.out.1 j qy hqy).1)).trans (H6.out.1 j qy hqy).1)
              have d4 : ∀ s : Desc wr, s.val.cell? ⟨(a5.add (j * 2)).block, (a5.add (j * 2)).off + 1, none⟩ = some (.int .i64 (qy.den : Int)) := fun s => s.cell ((hbl.cell (lt_of_cell (H6.out.1 j qy hqy).2)).trans (H6.out.1 j qy hqy).2)
              have HQ := Lib.hid (And.intro hz (And.intro (low_small sx) (mul_bds sx hbb.2)))
              have hx3 : 1 ≤ (qx.den : Int) ∧ (qx.den : Int) ≤ 24 ∧ -100000 ≤ qx.num ∧ qx.num ≤ 100000 := ⟨den_pos qx, sx.1, sx.2.1, sx.2.2⟩
              have l3 : (j : Int) < (k5 : Int) := by omega
              have l4 : (0 : Int) ≤ (j : Int) := by omega
              have hd24 : decide ((24 : Int) < (qx.den : Int)) = false := decide_eq_false (by omega)
              have HBj := Lib.hid hbl
              have hws := hbl.size
              have HLOW : Hid (∀ s : Desc wr, Calls Try.prog 22 #[.agg #[.int .i64 qx.num, .int .i64 (qx.den : Int)]] s.val fun e w'' => e = .returned (.bool true) ∧ ∃ s' : Desc wr, w'' = s'.val) := Lib.hid fun s =>
                Calls.desc_of ((rlowest_any qx.num qx.den _ (by omega) (by omega) (by omega)).mono fun e w' h => ⟨by rw [h.1, HQ.out.2.1], h.2⟩)
              have HWH : Hid (∀ s : Desc wr, Calls Try.prog 24 #[.int .i64 (b : Int)] s.val fun e w'' => e = .returned (.agg #[.int .i64 (b : Int), .int .i64 1]) ∧ ∃ s' : Desc wr, w'' = s'.val) := Lib.hid fun s =>
                Calls.desc_of ((lwhole_any (b : Int) _).mono fun e w' h => ⟨by rw [h.1, fr_int], h.2⟩)
              have HMUL : Hid (∀ s : Desc wr, Calls Try.prog 48 #[.agg #[.int .i64 qx.num, .int .i64 (qx.den : Int)], .agg #[.int .i64 (b : Int), .int .i64 1]] s.val fun e w'' => e = .returned (.agg #[.int .i64 qy.num, .int .i64 (qy.den : Int)]) ∧ ∃ s' : Desc wr, w'' = s'.val) := Lib.hid fun s =>
                Calls.desc_of ((rmul_raw qx ((b : Int) : Rat) _ HQ.out.2.2.1 HQ.out.2.2.2.1 HQ.out.2.2.2.2).mono fun e w' h => ⟨by rw [h.1, ← HQ.out.1]; rfl, h.2⟩)
              clear sx hqx hqy hz hbl hb25 hbz
              go_wp2_with fail
              refine wp_region_desc (by kernel_rfl) (by kernel_rfl) ?_
              repeat (go_big_quiet_step (first | (go_at_call 22; exact HLOW.out _) | (go_at_call 24; exact HWH.out _) | (go_at_call 48; exact HMUL.out _)))
              refine wpQuiet_nil ?_
              rintro _ ⟨sd, rfl⟩
              have HBE := Lib.hid (HBj.out.trans (sd.below.mono hws))
              clear d1 d2 d3 d4
              go_wp2_with fail
              go_roundw
              case rel => exact ⟨j + 1, by omega, by go_num, HBE.out⟩
              case measure => simp [intOf]; omega
            · obtain rfl : j = k5 := by omega
              have HB9 := Lib.hid (And.intro (H5.out.2.2.1.trans (hbl.mono H5.out.2.2.1.size)) (H5.out.2.2.2.1.below hbl))
              clear hbl
              go_wp2_with fail
              refine (list_any A k cap c _ H.out.1 hcp hm (H.out.2.below HB9.out.1)).mono ?_
              rintro e w10 ⟨A10, c10, rfl, hown, hb⟩
              have hI : Ints w10 A10 (c.take 18) := At.of_own hown
              have H10 := Lib.hid (And.intro hI (And.intro (HB9.out.1.trans (hb.mono HB9.out.1.size)) (HB9.out.2.below hb)))
              clear hown hb hI
              go_wp2_with fail
              refine (core2_any A10 (min k 18) c10 (c.take 18) _ H1.out.2.2 (by omega) H10.out.1).mono ?_
              rintro e w11 ⟨A11, k11, c11, rfl, _, _, _, _, hb⟩
              rw [coE_take]
              have H11 := Lib.hid (And.intro (H10.out.2.1.trans (hb.mono H10.out.2.1.size)) (H10.out.2.2.below hb))
              clear hb
              go_wp2_with fail
              refine (core2_any (some ⟨g, 0, none⟩) k c3 (timesL c b) _ H4.out.2.1 (by omega) H11.out.2).mono ?_
              rintro e w12 ⟨A12, k12, c12, rfl, _, _, _, _, hb⟩
              rw [H6.out.2.2.1]
              have H12 := Lib.hid (And.intro (H11.out.1.trans (hb.mono H11.out.1.size)) (H11.out.2.below hb))
              clear hb
              go_wp2_with fail
              refine (list_any A k cap c _ H.out.1 hcp hm (H.out.2.below H12.out.1)).mono ?_
              rintro e w13 ⟨A13, c13, rfl, hown, hb⟩
              have hI : Ints w13 A13 (c.take 18) := At.of_own hown
              have H13 := Lib.hid (And.intro hI (And.intro (H12.out.1.trans (hb.mono H12.out.1.size)) (H12.out.2.below hb)))
              clear hown hb hI
              go_wp2_with fail
              refine (concave2_any A13 (min k 18) c13 (c.take 18) _ H1.out.2.2 (by omega) H13.out.1).mono ?_
              rintro e w14 ⟨rfl, hb⟩
              rw [concA_take]
              have H14 := Lib.hid (And.intro (H13.out.2.1.trans (hb.mono H13.out.2.1.size)) (H13.out.2.2.below hb))
              clear hb
              go_wp2_with fail
              refine (concave2_any (some ⟨g, 0, none⟩) k c3 (timesL c b) _ H4.out.2.1 (by omega) H14.out.2).mono ?_
              rintro e w15 ⟨rfl, hb⟩
              rw [H6.out.2.2.2]
              have H15 := Lib.hid (H14.out.1.trans (hb.mono H14.out.1.size))
              clear hb
              generalize coE c = z1
              generalize (concA c).2.2 = z2
              have y1 : (z1 == z1) = true := by simp
              have y2 : (((z2 : Nat) : Int) == ((z2 : Nat) : Int)) = true := by simp
              go_wp2_with fail
              refine (awake_any _).mono ?_
              rintro e w16 ⟨rfl, hb16⟩
              have HB16 := Lib.hid (H15.out.trans (hb16.mono H15.out.size))
              clear hb16
              go_wp2_with fail
              go_ret
              exact ⟨rfl, HB16.out⟩
end Go.Proofs.Ytbidboagaoifaaa
