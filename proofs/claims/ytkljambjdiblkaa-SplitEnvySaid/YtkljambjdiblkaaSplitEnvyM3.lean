/- Laws and contracts that the proof of SplitEnvy uses, part 3. -/
import Derived.Test.YtkljambjdiblkaaSplitEnvyM2
namespace Go.Proofs.Ytkljambjdiblkaa
open Go.RowKit

/- Contracts: eased and Fair of the reference. -/

set_option maxRecDepth 100000 in
set_option maxHeartbeats 3200000 in
theorem r1eased_any (A : Option Addr) (n cap : Nat) (D : Option Addr) (m capd i j : Nat) (kind : Int) (V : List (List Int)) (d : List Int) (w : World) (hl : V.length = n) (hn : n ≤ 1000) (hi : i < n) (hld : d.length = m) (hm : m ≤ 1000)
    (hr : (rowV V i).length = m) (hrb : ∀ x ∈ rowV V i, 0 ≤ x ∧ x ≤ 100) (hV : Mat w A V) (hD : Ints w D d) :
    Calls Try.prog 66 #[.slice A n cap, .slice D m capd, .int .i64 i, .int .i64 j, .int .i64 kind] w fun e w' => e = .returned (.bool (okE V d kind i j)) ∧ ∃ k, w' = w.drewN k := by
  obtain ⟨ad, rfl, _, hc⟩ := hV.some_ (by omega)
  obtain ⟨A', c, h1, h2, h3, h4⟩ := hc i _ (List.getElem?_eq_getElem (by omega))
  have er : rowV V i = V[i]'(by omega) := rowV_get (List.getElem?_eq_getElem (by omega))
  rw [← er] at h1 h2 h4
  rw [hr] at h1 h2
  have b1 := wor_bd (V := V) (d := d) (i := i) (j := (j : Int)) hrb hld
  have hok : okE V d kind i j = ((decide (kind = 1) && someE V d i j m) || (decide (kind = 2) && eachE V d i j m)) := by unfold okE upB upTo; rw [hld]; simp
  have H := Lib.hid (And.intro hl (And.intro hld (And.intro hr (And.intro hrb (And.intro hV (And.intro hD (And.intro h4 hok)))))))
  have l1 : (i : Int) < (n : Int) := by omega
  have l3 : (0 : Int) ≤ (i : Int) := by omega
  clear hl hld hr hrb hV hD hc h4 er hok
  go_enter Try.func66, Try.ntmps66
  go_wp2_with fail
  go_loopw [11, 12, 18] (fun sv ev gv wr => ∃ g k : Nat, g ≤ m ∧ gv = .int .i64 g ∧ sv = .bool (someE V d i j g) ∧ ev = .bool (eachE V d i j g) ∧ wr = w.drewN k) (fun _ _ gv _ => m - (intOf gv).toNat)
  case atStart => exact ⟨0, 0, Nat.zero_le _, rfl, by simp [someE], by simp [eachE], rfl⟩
  case round =>
    obtain ⟨g, k, hg, rfl, rfl, rfl, hwr⟩ := hrel
    have hcr0 : ∀ p, wr.cell? p = w.cell? p := fun p => by rw [hwr]; rfl
    have HC0 := Lib.hid (And.intro hcr0 hwr)
    clear hcr0 hwr
    by_cases hlt : g < m
    · obtain ⟨y, hy⟩ : ∃ y, d[g]? = some y := ⟨_, List.getElem?_eq_getElem (by have := H.out.2.1; omega)⟩
      obtain ⟨x, hx⟩ : ∃ x, (rowV V i)[g]? = some x := ⟨_, List.getElem?_eq_getElem (by have := H.out.2.2.1; omega)⟩
      obtain ⟨dd, rfl, hcd⟩ := H.out.2.2.2.2.2.1 g (.int .i64 y) (by rw [List.getElem?_map, hy]; rfl)
      obtain ⟨rd, rfl, hcr⟩ := H.out.2.2.2.2.2.2.1 g (.int .i64 x) (by rw [List.getElem?_map, hx]; rfl)
      rw [← HC0.out.1] at hcd hcr
      have c1 := h1
      rw [← HC0.out.1] at c1
      have hxb := H.out.2.2.2.1 x (List.mem_of_getElem? hx)
      have hdg : d.getD g 0 = y := by rw [List.getD_eq_getElem?_getD, hy]; rfl
      have hxg : (rowV V i).getD g 0 = x := by rw [List.getD_eq_getElem?_getD, hx]; rfl
      have hen : enough V d i j g = decide (wor V d i (j : Int) - x ≤ wor V d i (i : Int)) := by unfold enough; rw [hxg]
      have hse := someE_succ V d i j g
      have hee := eachE_succ V d i j g
      rw [hdg, hen] at hse hee
      have l2 : (g : Int) < (m : Int) := by omega
      have HE := Lib.hid (And.intro hse hee)
      obtain ⟨sb, hsb⟩ : ∃ sb, sb = someE V d i j g := ⟨_, rfl⟩
      obtain ⟨eb, heb⟩ : ∃ eb, eb = eachE V d i j g := ⟨_, rfl⟩
      rw [← hsb, ← heb]
      have HSE := Lib.hid (And.intro hsb heb)
      clear hy hx hdg hxg hen hse hee hsb heb
      by_cases he : y = (j : Int)
      · subst he
        have hbe : ((j : Int) == (j : Int)) = true := by simp
        have hq : ∀ (tt : Nat) w8, Mat w8 (some ad) V → Ints w8 (some dd) d → Calls Try.prog 67 #[.slice (some ad) n cap, .slice (some dd) m capd, .int .i64 i, .int .i64 tt] w8 fun e w' => e = .returned (.int .i64 (wor V d i (tt : Int))) ∧ w' = w8 := fun tt w8 hV hD =>
          (r1worth_any (some ad) n cap (some dd) m capd i (tt : Int) V d w8 H.out.1 hn hi H.out.2.1 hm H.out.2.2.1 H.out.2.2.2.1 hV hD).mono fun _ _ ⟨a, b⟩ => ⟨a, b.symm⟩
        have HQ := Lib.hid hq
        have HV : Hid (Mat wr (some ad) V ∧ Ints wr (some dd) d) := Lib.hid ⟨H.out.2.2.2.2.1.keep fun p v h => (HC0.out.1 p).trans h, H.out.2.2.2.2.2.1.keep fun p v h => (HC0.out.1 p).trans h⟩
        have ew : IntKind.i64.wrap (wor V d i (j : Int) - x) = wor V d i (j : Int) - x := IntWalk.i64_in _ (by omega)
        have ebe : decide ((j : Int) = (j : Int)) = true := by simp
        rw [ebe] at HE
        clear hq h1 ebe
        by_cases hle : wor V d i (j : Int) - x ≤ wor V d i (i : Int)
        · have HN : Hid ((sb || true) = someE V d i j (g + 1) ∧ (eb && true) = eachE V d i j (g + 1)) := Lib.hid (by
            rw [HE.out.1, HE.out.2, decide_eq_true hle, ← HSE.out.1, ← HSE.out.2]; simp)
          go_wp2_with fail
          go_quiet ((go_at_call 67; exact Calls.quiet_of_same (HQ.out _ _ HV.out.1 HV.out.2)))
          cases sb
          all_goals
            cases eb
          all_goals
            go_wp2_with fail
            go_roundw
            case rel => exact ⟨g + 1, k + nq, by omega, by go_num, by rw [← HN.out.1]; rfl, by rw [← HN.out.2]; rfl, by rw [HC0.out.2]; simp⟩
            case measure => simp [intOf]; omega
        · have HN : Hid ((sb || false) = someE V d i j (g + 1) ∧ (eb && false) = eachE V d i j (g + 1)) := Lib.hid (by
            rw [HE.out.1, HE.out.2, decide_eq_false hle, ← HSE.out.1, ← HSE.out.2]; simp)
          have hnd : decide (wor V d i (j : Int) - x ≤ wor V d i (i : Int)) = false := decide_eq_false hle
          go_wp2_with fail
          go_quiet ((go_at_call 67; exact Calls.quiet_of_same (HQ.out _ _ HV.out.1 HV.out.2)))
          cases sb
          all_goals
            cases eb
          all_goals
            go_wp2_with fail
            go_roundw
            case rel => exact ⟨g + 1, k + nq, by omega, by go_num, by rw [← HN.out.1]; rfl, by rw [← HN.out.2]; rfl, by rw [HC0.out.2]; simp⟩
            case measure => simp [intOf]; omega
      · have hbe : (y == (j : Int)) = false := by simp [he]
        have hbe2 : decide (y = (j : Int)) = false := decide_eq_false he
        have HN : Hid (sb = someE V d i j (g + 1) ∧ eb = eachE V d i j (g + 1)) := Lib.hid (by
          rw [HE.out.1, HE.out.2, hbe2, ← HSE.out.1, ← HSE.out.2]; simp)
        clear hbe2 he
        go_wp2_with fail
        go_roundw
        case rel => exact ⟨g + 1, k, by omega, by go_num, by rw [← HN.out.1], by rw [← HN.out.2], HC0.out.2⟩
        case measure => simp [intOf]; omega
    · obtain rfl : g = m := by omega
      obtain ⟨sb, hsb⟩ : ∃ sb, sb = someE V d i j g := ⟨_, rfl⟩
      obtain ⟨eb, heb⟩ : ∃ eb, eb = eachE V d i j g := ⟨_, rfl⟩
      rw [← hsb, ← heb]
      have HF : Hid (okE V d kind i j = ((decide (kind = 1) && sb) || (decide (kind = 2) && eb))) := Lib.hid (by rw [H.out.2.2.2.2.2.2.2, hsb, heb])
      clear hsb heb
      by_cases k1 : kind = 1
      · subst k1
        have HF2 : Hid (okE V d 1 i j = sb) := Lib.hid (by rw [HF.out]; simp)
        cases sb
        all_goals
          go_wp2_with fail
          go_ret
          exact ⟨ret_bool HF2.out.symm, k, HC0.out.2⟩
      · by_cases k2 : kind = 2
        · subst k2
          have HF2 : Hid (okE V d 2 i j = eb) := Lib.hid (by rw [HF.out]; simp)
          go_wp2_with fail
          go_ret
          exact ⟨ret_bool HF2.out.symm, k, HC0.out.2⟩
        · have e1 : (kind == 1) = false := by simp [k1]
          have e2 : (kind == 2) = false := by simp [k2]
          have HF2 : Hid (okE V d kind i j = false) := Lib.hid (by rw [HF.out, decide_eq_false k1, decide_eq_false k2]; rfl)
          clear k1 k2
          go_wp2_with fail
          go_ret
          exact ⟨ret_bool HF2.out.symm, k, HC0.out.2⟩

/- Contract: Fair of the reference. -/

theorem mat_drewN {w : World} {A : Option Addr} {V : List (List Int)} (h : Mat w A V) (k : Nat) : Mat (w.drewN k) A V := h
theorem ints_drewN {w : World} {A : Option Addr} {l : List Int} (h : Ints w A l) (k : Nat) : Ints (w.drewN k) A l := h

set_option maxRecDepth 100000 in
set_option maxHeartbeats 3200000 in
theorem r1fair_low (A : Option Addr) (n cap : Nat) (D : Option Addr) (m capd : Nat) (kind : Int) (V : List (List Int)) (d : List Int) (w : World) (hl : V.length = n) (hn : n ≤ 10) (hld : d.length = m) (hm : m ≤ 1000) (hk : 0 ≤ kind ∧ kind ≤ 2)
    (hr : ∀ i, i < n → (rowV V i).length = m ∧ ∀ x ∈ rowV V i, 0 ≤ x ∧ x ≤ 100) (hV : Mat w A V) (hD : Ints w D d) :
    Calls Try.prog 35 #[.slice A n cap, .slice D m capd, .int .i64 kind] w fun e w' => e = .returned (.bool (fairB V d n kind)) ∧ ∃ k, w' = w.drewN k := by
  have hfl : fairB V d n kind = (List.range n).all fun i => (List.range n).all fun j => !envB V d i j || okE V d kind i j := by unfold fairB; rw [if_pos (by omega)]
  have H := Lib.hid (And.intro hl (And.intro hld (And.intro hr (And.intro hV (And.intro hD hfl)))))
  have l0 : kind < 3 := by omega
  clear hl hld hr hV hD hfl
  go_enter Try.func35, Try.ntmps35
  go_wp2_with fail
  go_loopw [16] (fun iv wr => ∃ i k : Nat, i ≤ n ∧ iv = .int .i64 i ∧ (List.range i).all (fun i => (List.range n).all fun j => !envB V d i j || okE V d kind i j) = true ∧ wr = w.drewN k) (fun iv _ => n - (intOf iv).toNat)
  case atStart => exact ⟨0, 0, Nat.zero_le _, rfl, by simp, rfl⟩
  case round =>
    obtain ⟨i, k, hi, rfl, hall, hwr⟩ := hrel
    obtain ⟨wo, rfl⟩ : ∃ wo : World, wo = wr := ⟨_, rfl⟩
    have HR := Lib.hid (And.intro hall hwr)
    clear hall hwr
    by_cases hlt : i < n
    · have l1 : (i : Int) < (n : Int) := by omega
      go_wp2_with fail
      go_loopw [23] (fun jv wr => ∃ j k : Nat, j ≤ n ∧ jv = .int .i64 j ∧ (List.range j).all (fun j => !envB V d i j || okE V d kind i j) = true ∧ wr = w.drewN k) (fun jv _ => n - (intOf jv).toNat)
      case atStart => exact ⟨0, k, Nat.zero_le _, rfl, by simp, HR.out.2⟩
      case round =>
        obtain ⟨j, k2, hj, rfl, hall2, hwr2⟩ := hrel
        have hV2 : Mat wr A V := by rw [hwr2]; exact mat_drewN H.out.2.2.2.1 _
        have hD2 : Ints wr D d := by rw [hwr2]; exact ints_drewN H.out.2.2.2.2.1 _
        have HJ := Lib.hid (And.intro hall2 (And.intro hwr2 (And.intro hV2 hD2)))
        clear hall2 hwr2 hV2 hD2
        by_cases hlj : j < n
        · have l2 : (j : Int) < (n : Int) := by omega
          go_wp2_with fail
          refine (r1envies_any A n cap D m capd i j V d _ H.out.1 (by omega) hlt H.out.2.1 hm (H.out.2.2.1 i hlt).1 (H.out.2.2.1 i hlt).2 HJ.out.2.2.1 HJ.out.2.2.2).mono ?_
          rintro e w' ⟨rfl, rfl⟩
          cases hev : envB V d i j
          · have HN : Hid ((List.range (j + 1)).all (fun j => !envB V d i j || okE V d kind i j) = true) := Lib.hid (range_all_succ HJ.out.1 (by rw [hev]; rfl))
            clear hev
            go_wp2_with fail
            go_roundw
            case rel => exact ⟨j + 1, k2, by omega, by go_num, HN.out, HJ.out.2.1⟩
            case measure => simp [intOf]; omega
          · have HEV := Lib.hid hev
            clear hev
            go_wp2_with fail
            refine (r1eased_any A n cap D m capd i j kind V d _ H.out.1 (by omega) hlt H.out.2.1 hm (H.out.2.2.1 i hlt).1 (H.out.2.2.1 i hlt).2 HJ.out.2.2.1 HJ.out.2.2.2).mono ?_
            rintro e w' ⟨rfl, k3, rfl⟩
            cases hok : okE V d kind i j
            · have HF : Hid (false = fairB V d n kind) := Lib.hid (by
                rw [H.out.2.2.2.2.2]
                exact (range_bad hlt (range_bad hlj (by rw [HEV.out, hok]; rfl))).symm)
              clear hok
              go_wp2_with fail
              go_ret
              exact ⟨ret_bool HF.out, k2 + k3, by rw [HJ.out.2.1]; simp⟩
            · have HN : Hid ((List.range (j + 1)).all (fun j => !envB V d i j || okE V d kind i j) = true) := Lib.hid (range_all_succ HJ.out.1 (by rw [HEV.out, hok]; rfl))
              clear hok
              go_wp2_with fail
              go_roundw
              case rel => exact ⟨j + 1, k2 + k3, by omega, by go_num, HN.out, by rw [HJ.out.2.1]; simp⟩
              case measure => simp [intOf]; omega
        · obtain rfl : j = n := by omega
          have HN : Hid ((List.range (i + 1)).all (fun i => (List.range j).all fun j => !envB V d i j || okE V d kind i j) = true) := Lib.hid (range_all_succ HR.out.1 HJ.out.1)
          go_wp2_with fail
          go_roundw
          case rel => exact ⟨i + 1, k2, by omega, by go_num, HN.out, HJ.out.2.1⟩
          case measure => simp [intOf]; omega
    · obtain rfl : i = n := by omega
      have HF : Hid (true = fairB V d i kind) := Lib.hid (by rw [H.out.2.2.2.2.2, HR.out.1])
      go_wp2_with fail
      go_ret
      exact ⟨ret_bool HF.out, k, HR.out.2⟩

set_option maxRecDepth 100000 in
set_option maxHeartbeats 3200000 in
theorem r1fair_high (A : Option Addr) (n cap : Nat) (D : Option Addr) (m capd : Nat) (kind : Int) (V : List (List Int)) (d : List Int) (w : World) (hl : V.length = n) (hn : n ≤ 10) (hld : d.length = m) (hm : m ≤ 1000) (hk : kind = 3 ∨ kind = 4)
    (hr : ∀ i, i < n → (rowV V i).length = m ∧ ∀ x ∈ rowV V i, 0 ≤ x ∧ x ≤ 100) (hV : Mat w A V) (hD : Ints w D d) :
    Calls Try.prog 35 #[.slice A n cap, .slice D m capd, .int .i64 kind] w fun e w' => e = .returned (.bool (fairB V d n kind)) ∧ w = w' := by
  have hfl := fairB_high (V := V) (d := d) (n := n) (kind := kind) (by omega)
  have H := Lib.hid (And.intro hl (And.intro hld (And.intro hr (And.intro hV (And.intro hD hfl)))))
  clear hl hld hr hV hD hfl
  have e3 : ¬ kind < 3 := by omega
  go_enter Try.func35, Try.ntmps35
  go_wp2_with fail
  go_loop [16] (fun iv => ∃ i : Nat, i ≤ n ∧ iv = .int .i64 i ∧ (List.range i).all (fun i => partB V d n i (moreK V d kind i)) = true) (fun iv => n - (intOf iv).toNat)
  case atStart => exact ⟨0, Nat.zero_le _, rfl, by simp⟩
  case round =>
    obtain ⟨i, hin, rfl, hall⟩ := hrel
    have HA := Lib.hid hall
    clear hall
    by_cases hlti : i < n
    · obtain ⟨hr1, hr2⟩ := H.out.2.2.1 i hlti
      obtain ⟨ad, rfl, _, hc⟩ := H.out.2.2.2.1.some_ (by have := H.out.1; omega)
      obtain ⟨A', c, h1, h2, h3, h4⟩ := hc i _ (List.getElem?_eq_getElem (by have := H.out.1; omega))
      have er : rowV V i = V[i]'(by have := H.out.1; omega) := rowV_get (List.getElem?_eq_getElem (by have := H.out.1; omega))
      rw [← er] at h1 h2 h4
      rw [hr1] at h1 h2
      have l2 : (i : Int) < (n : Int) := by omega
      have hob := wor_bd (V := V) (d := d) (i := i) (j := (i : Int)) hr2 H.out.2.1
      have HI := Lib.hid (And.intro hr1 (And.intro hr2 h4))
      clear hr1 hr2 hc h4 er
      go_wp2_with fail
      refine (r1worth_any (some ad) n cap D m capd i (i : Int) V d _ H.out.1 (by omega) hlti H.out.2.1 hm HI.out.1 HI.out.2.1 H.out.2.2.2.1 H.out.2.2.2.2.1).mono ?_
      rintro e w' ⟨rfl, rfl⟩
      obtain ⟨o, ho⟩ : ∃ o, o = wor V d i (i : Int) := ⟨_, rfl⟩
      rw [← ho] at hob ⊢
      have HO := Lib.hid ho
      clear ho
      go_wp2_with fail
      go_loop [10, 11, 51] (fun sv mv gv => ∃ g : Nat, g ≤ m ∧ gv = .int .i64 g ∧ sv = .int .i64 ((rowV V i).take g).sum ∧ mv = .int .i64 (mostTo (rowV V i) d i g)) (fun _ _ gv => m - (intOf gv).toNat)
      case atStart => exact ⟨0, Nat.zero_le _, rfl, rfl, rfl⟩
      case round =>
        obtain ⟨g, hg, rfl, rfl, rfl⟩ := hrel
        by_cases hltg : g < m
        · obtain ⟨y, hy⟩ : ∃ y, d[g]? = some y := ⟨_, List.getElem?_eq_getElem (by have := H.out.2.1; omega)⟩
          obtain ⟨x, hx⟩ : ∃ x, (rowV V i)[g]? = some x := ⟨_, List.getElem?_eq_getElem (by have := HI.out.1; omega)⟩
          obtain ⟨dd, rfl, hcd⟩ := H.out.2.2.2.2.1 g (.int .i64 y) (by rw [List.getElem?_map, hy]; rfl)
          obtain ⟨rd, rfl, hcr⟩ := HI.out.2.2 g (.int .i64 x) (by rw [List.getElem?_map, hx]; rfl)
          have hxb := HI.out.2.1 x (List.mem_of_getElem? hx)
          have hdg : d.getD g 0 = y := by rw [List.getD_eq_getElem?_getD, hy]; rfl
          have hxg : (rowV V i).getD g 0 = x := by rw [List.getD_eq_getElem?_getD, hx]; rfl
          have hmost : mostTo (rowV V i) d i (g + 1) = if y = (i : Int) then mostTo (rowV V i) d i g else max (mostTo (rowV V i) d i g) x := by rw [mostTo, hdg, hxg]
          have hmb := mostTo_bd HI.out.2.1 d i g
          have HS := Lib.hid (sum_take' hx)
          have hsb := sum_bd' (l := (rowV V i).take g) fun x hx => HI.out.2.1 x (List.mem_of_mem_take hx)
          have htl : ((rowV V i).take g).length ≤ 1000 := by rw [List.length_take]; omega
          have l3 : (g : Int) < (m : Int) := by omega
          generalize ((rowV V i).take g).sum = sv at HS hsb ⊢
          have hsv : 0 ≤ sv ∧ sv ≤ 100000 := by omega
          clear hdg hxg hy hx hsb htl
          generalize mostTo (rowV V i) d i g = mo at *
          by_cases hyi : y = (i : Int)
          · have hb : (y != (i : Int)) = false := by simp [hyi]
            have HN : Hid (mostTo (rowV V i) d i (g + 1) = mo) := Lib.hid (by rw [hmost, if_pos hyi])
            clear hyi hmost
            go_wp2_with fail
            go_round
            case rel => exact ⟨g + 1, by omega, by go_num, by rw [HS.out], by rw [HN.out]⟩
            case measure => simp [intOf]; omega
          · have hb : (y != (i : Int)) = true := by rw [bne_iff_ne]; exact hyi
            by_cases hmx : mo < x
            · have HN : Hid (mostTo (rowV V i) d i (g + 1) = x) := Lib.hid (by rw [hmost, if_neg hyi]; omega)
              clear hyi hmost
              go_wp2_with fail
              go_round
              case rel => exact ⟨g + 1, by omega, by go_num, by rw [HS.out], by rw [HN.out]⟩
              case measure => simp [intOf]; omega
            · have HN : Hid (mostTo (rowV V i) d i (g + 1) = mo) := Lib.hid (by rw [hmost, if_neg hyi]; omega)
              clear hyi hmost
              go_wp2_with fail
              go_round
              case rel => exact ⟨g + 1, by omega, by go_num, by rw [HS.out], by rw [HN.out]⟩
              case measure => simp [intOf]; omega
        · obtain rfl : g = m := by omega
          have hT : (rowV V i).take g = rowV V i := List.take_of_length_le (by rw [HI.out.1]; omega)
          rw [hT]
          have hpt : partB V d n i (moreK V d kind i) = decide ((rowV V i).sum ≤ (o + (if kind = 4 then mostTo (rowV V i) d i g else 0)) * n) := by unfold partB moreK; rw [← HO.out, H.out.2.1]
          have hmb := mostTo_bd HI.out.2.1 d i g
          generalize mostTo (rowV V i) d i g = mo at *
          generalize (rowV V i).sum = al at *
          have p1 : 0 ≤ (n : Int) * o ∧ (n : Int) * o ≤ 1001000 := by
            refine ⟨Int.mul_nonneg (by omega) (by omega), ?_⟩
            exact Int.le_trans (Int.mul_le_mul (show (n : Int) ≤ 10 by omega) (show o ≤ 100100 by omega) (by omega) (by omega)) (by omega)
          have p2 : 0 ≤ (n : Int) * (o + mo) ∧ (n : Int) * (o + mo) ≤ 1001000 := by
            refine ⟨Int.mul_nonneg (by omega) (by omega), ?_⟩
            exact Int.le_trans (Int.mul_le_mul (show (n : Int) ≤ 10 by omega) (show o + mo ≤ 100100 by omega) (by omega) (by omega)) (by omega)
          have p3 : (n : Int) * o ≤ (n : Int) * (o + mo) := Int.mul_le_mul_of_nonneg_left (by omega) (by omega)
          have HPT := Lib.hid hpt
          have HPF : Hid (partB V d n i (moreK V d kind i) = false → false = fairB V d n kind) := Lib.hid fun h => by rw [H.out.2.2.2.2.2]; exact (range_bad hlti h).symm
          have HPN : Hid (partB V d n i (moreK V d kind i) = true → (List.range (i + 1)).all (fun i => partB V d n i (moreK V d kind i)) = true) := Lib.hid fun h => range_all_succ HA.out h
          clear hT hpt
          rcases hk with rfl | rfl
          · by_cases hle : al ≤ (n : Int) * o
            · have HN := Lib.hid (HPN.out (by rw [HPT.out, if_neg (by omega)]; apply decide_eq_true; rw [Int.add_zero, Int.mul_comm]; exact hle))
              have l5 : ¬ (n : Int) * o < al := by omega
              clear p2 p3
              go_wp2_with fail
              go_round
              case rel => exact ⟨i + 1, by omega, by go_num, HN.out⟩
              case measure => simp [intOf]; omega
            · have HF := Lib.hid (HPF.out (by rw [HPT.out, if_neg (by omega)]; apply decide_eq_false; rw [Int.add_zero, Int.mul_comm]; exact hle))
              have l5 : (n : Int) * o < al := by omega
              clear p2 p3
              go_wp2_with fail
              go_ret
              exact ⟨ret_bool HF.out, rfl⟩
          · by_cases hle : al ≤ (n : Int) * (o + mo)
            · have HN := Lib.hid (HPN.out (by rw [HPT.out, if_pos rfl]; apply decide_eq_true; rw [Int.mul_comm]; exact hle))
              have l5 : ¬ (n : Int) * (o + mo) < al := by omega
              by_cases hlo : al ≤ (n : Int) * o
              · have l6 : ¬ (n : Int) * o < al := by omega
                go_wp2_with fail
                go_round
                case rel => exact ⟨i + 1, by omega, by go_num, HN.out⟩
                case measure => simp [intOf]; omega
              · have l6 : (n : Int) * o < al := by omega
                go_wp2_with fail
                go_round
                case rel => exact ⟨i + 1, by omega, by go_num, HN.out⟩
                case measure => simp [intOf]; omega
            · have HF := Lib.hid (HPF.out (by rw [HPT.out, if_pos rfl]; apply decide_eq_false; rw [Int.mul_comm]; exact hle))
              have l5 : (n : Int) * (o + mo) < al := by omega
              have l6 : (n : Int) * o < al := by omega
              go_wp2_with fail
              go_ret
              exact ⟨ret_bool HF.out, rfl⟩
    · obtain rfl : i = n := by omega
      have HF : Hid (true = fairB V d i kind) := Lib.hid (by rw [H.out.2.2.2.2.2, HA.out])
      go_wp2_with fail
      go_ret
      exact ⟨ret_bool HF.out, rfl⟩

theorem r1fair_any (A : Option Addr) (n cap : Nat) (D : Option Addr) (m capd : Nat) (kind : Int) (V : List (List Int)) (d : List Int) (w : World) (hl : V.length = n) (hn : n ≤ 10) (hld : d.length = m) (hm : m ≤ 1000) (hk : 0 ≤ kind ∧ kind ≤ 4)
    (hr : ∀ i, i < n → (rowV V i).length = m ∧ ∀ x ∈ rowV V i, 0 ≤ x ∧ x ≤ 100) (hV : Mat w A V) (hD : Ints w D d) :
    Calls Try.prog 35 #[.slice A n cap, .slice D m capd, .int .i64 kind] w fun e w' => e = .returned (.bool (fairB V d n kind)) ∧ ∃ k, w' = w.drewN k := by
  by_cases h : kind ≤ 2
  · exact r1fair_low A n cap D m capd kind V d w hl hn hld hm ⟨hk.1, h⟩ hr hV hD
  · exact (r1fair_high A n cap D m capd kind V d w hl hn hld hm (by omega) hr hV hD).mono fun _ _ ⟨a, b⟩ => ⟨a, 0, b.symm⟩

/- The walk of SplitEnvy: Envy and Fair of package split against the reference. -/

set_option maxRecDepth 100000 in
set_option maxHeartbeats 3200000 in
theorem law_envy (A : Option Addr) (n cap : Nat) (V : List (List Int)) (D : Option Addr) (nd capd : Nat) (d : List Int) (kind : Int) (w : World)
    (hl : V.length = n) (hc : n ≤ cap) (hm : cap ≤ 9223372036854775807) (hV : Mat w A V) (_hx : ∀ r ∈ V, ∀ x ∈ r, -9223372036854775808 ≤ x ∧ x ≤ 9223372036854775807)
    (hld : d.length = nd) (hcd : nd ≤ capd) (hmd : capd ≤ 9223372036854775807) (hD : Ints w D d) (_hxd : ∀ x ∈ d, -9223372036854775808 ≤ x ∧ x ≤ 9223372036854775807) (hk : -9223372036854775808 ≤ kind ∧ kind ≤ 9223372036854775807) :
    Calls Try.prog 8 #[.slice A n cap, .slice D nd capd, .int .i64 kind] w fun e w' => e = .returned (.bool true) ∧ Below w.heap.size w w' := by
  have H := Lib.hid (And.intro hl (And.intro hV (And.intro hld hD)))
  clear hl hV hld hD _hx _hxd
  go_enter Try.func8, Try.ntmps8
  go_wp2_with fail
  refine (few2_any A n cap V _ H.out.1 (by omega) H.out.2.1).mono ?_
  rintro e w1 ⟨A1, q1, c1, rfl, hq, hq6, hqc, hc1, hM, hb⟩
  have H1 := Lib.hid (And.intro hq (And.intro hM hb))
  clear hq hM hb
  go_wp2_with fail
  refine (lst_any D nd capd d _ H.out.2.2.1 hcd hmd (H.out.2.2.2.below H1.out.2.2)).mono ?_
  rintro e w2 ⟨A2, k2, c2, rfl, hk2, hk29, _, _, hI2, hb2⟩
  have H2 := Lib.hid (And.intro hk2 (And.intro hI2 (And.intro (H1.out.2.1.below hb2) (H1.out.2.2.trans (hb2.mono H1.out.2.2.size)))))
  clear hk2 hI2 hb2
  go_wp2_with fail
  refine (senvy0_any A1 A2 q1 c1 k2 c2 (fewV V) (d.take 9) w2 H1.out.1 (by omega) H2.out.2.2.1 H2.out.1 (by omega) H2.out.2.1).mono ?_
  rintro e w3 h3
  unfold EnvyPost0 at h3
  rw [divided_few] at h3
  obtain ⟨gd, hgd⟩ : ∃ gd, gd = (valV V && divV V d) := ⟨_, rfl⟩
  rw [← hgd] at h3
  obtain ⟨EA, ek, ec, ev, he, hres, hb3⟩ : ∃ EA ek ec ev, e = .returned (.tuple #[.slice EA ek ec, .int .i64 ev]) ∧ ((gd = false ∧ ek = 0 ∧ ev = 2) ∨ (gd = true ∧ ev = 0 ∧ (envL V d n).length = ek ∧ ek ≤ 1000 ∧ Pairs w3 EA (envL V d n))) ∧ Below w2.heap.size w2 w3 := by
    rcases h3 with ⟨hg, rfl, hb⟩ | ⟨hg, EA, ec, rfl, q1, q2, hb⟩
    · exact ⟨none, 0, 0, 2, rfl, .inl ⟨hg, rfl, rfl⟩, hb⟩
    · rw [hg] at hgd
      obtain ⟨_, _, e3, e4⟩ := good_few hgd.symm
      rw [e3, e4, H.out.1] at q1 q2 ⊢
      exact ⟨EA, _, ec, 0, rfl, .inr ⟨hg, rfl, rfl, q1, q2⟩, hb⟩
  subst he
  have H3 := Lib.hid (And.intro hgd (And.intro hres (H2.out.2.2.2.trans (hb3.mono H2.out.2.2.2.size))))
  clear h3 hgd hres hb3
  go_wp2_with fail
  refine (few2_any A n cap V _ H.out.1 (by omega) (H.out.2.1.below H3.out.2.2)).mono ?_
  rintro e w4 ⟨A4, q4, c4, rfl, hq, hq64, hqc4, hc4, hM, hb⟩
  have H4 := Lib.hid (And.intro hq (And.intro hM (And.intro hb (H3.out.2.2.trans (hb.mono H3.out.2.2.size)))))
  clear hq hM hb
  go_wp2_with fail
  refine (lst_any D nd capd d _ H.out.2.2.1 hcd hmd (H.out.2.2.2.below H4.out.2.2.2)).mono ?_
  rintro e w5 ⟨A5, k5, c5, rfl, hk5, hk59, _, _, hI5, hb5⟩
  have H5 := Lib.hid (And.intro hk5 (And.intro hI5 (And.intro (H4.out.2.1.below hb5) (And.intro (H4.out.2.2.1.trans (hb5.mono H4.out.2.2.1.size)) (H4.out.2.2.2.trans (hb5.mono H4.out.2.2.2.size))))))
  clear hk5 hI5 hb5
  go_wp2_with fail
  refine (sfair0_any A4 A5 q4 c4 k5 c5 kind (fewV V) (d.take 9) w5 H4.out.1 (by omega) H5.out.2.2.1 H5.out.1 (by omega) H5.out.2.1).mono ?_
  rintro e w6 h6
  unfold FairPost0 at h6
  rw [divided_few, ← H3.out.1] at h6
  obtain ⟨bv, fv, he, hres, hb6⟩ : ∃ bv fv, e = .returned (.tuple #[.bool bv, .int .i64 fv]) ∧ (((gd && decide (0 ≤ kind) && decide (kind ≤ 4)) = false ∧ bv = false ∧ fv = 2) ∨ ((gd && decide (0 ≤ kind) && decide (kind ≤ 4)) = true ∧ bv = fairB V d n kind ∧ fv = 0)) ∧ Below w5.heap.size w5 w6 := by
    rcases h6 with ⟨hg, rfl, hb⟩ | ⟨hg, rfl, hb⟩
    · exact ⟨_, _, rfl, .inl ⟨hg, rfl, rfl⟩, hb⟩
    · have hgt : gd = true := by simp only [Bool.and_eq_true] at hg; exact hg.1.1
      obtain ⟨_, _, e3, e4⟩ := good_few (H3.out.1.symm.trans hgt)
      rw [e3, e4, H.out.1]
      exact ⟨_, _, rfl, .inr ⟨hg, rfl, rfl⟩, hb⟩
  subst he
  have H6 := Lib.hid (And.intro hres (And.intro (H5.out.2.2.2.1.trans (hb6.mono H5.out.2.2.2.1.size)) (H5.out.2.2.2.2.trans (hb6.mono H5.out.2.2.2.2.size))))
  clear h6 hres hb6
  go_wp2_with fail
  refine (divided_any A D n cap nd capd V d w6 H.out.1 (by omega) (H.out.2.1.below H6.out.2.2) H.out.2.2.1 (by omega) (H.out.2.2.2.below H6.out.2.2)).mono ?_
  rintro e w7 ⟨rfl, rfl⟩
  rw [← H3.out.1]
  rcases H3.out.2.1 with ⟨rfl, rfl, rfl⟩ | ⟨rfl, rfl, hk3, hk31, hP⟩
  · obtain ⟨rfl, rfl⟩ : bv = false ∧ fv = 2 := by
      rcases H6.out.1 with ⟨_, h⟩ | ⟨h, _⟩
      · exact h
      · simp at h
    go_wp2_with fail
    refine (awake2_any w w6 H6.out.2.2).mono ?_
    rintro e w8 ⟨rfl, hb8⟩
    have H8 := Lib.hid hb8
    clear hb8
    go_wp2_with fail
    go_ret
    exact ⟨rfl, H8.out⟩
  · obtain ⟨hv, hd, _, _⟩ := good_few H3.out.1.symm
    have hv1 := valV_iff.1 hv
    have hn4 : 1 ≤ n ∧ n ≤ 4 := by rw [← H.out.1]; exact hv1.1
    obtain ⟨m, hm'⟩ : ∃ m, m = (rowV V 0).length := ⟨_, rfl⟩
    have hm7 : 1 ≤ m ∧ m ≤ 7 := by rw [hm']; exact hv1.2.1
    have hdm : nd = m := by rw [← H.out.2.2.1]; exact divV_len hd hm'
    subst hdm
    have HV := Lib.hid (And.intro (valV_rows hv hm') (And.intro hk3 (hP.below H6.out.2.1)))
    clear hv hd hv1 hm' hk3 hP
    go_wp2_with fail
    refine (r1envy_any A n cap D nd capd V d w6 H.out.1 (by omega) H.out.2.2.1 (by omega) (by rw [← H.out.1]; exact HV.out.1) (H.out.2.1.below H6.out.2.2) (H.out.2.2.2.below H6.out.2.2)).mono ?_
    rintro e w8 ⟨A8, c8, rfl, hq8, hP8, hb8⟩
    rw [HV.out.2.1] at hq8 ⊢
    have H8 := Lib.hid (And.intro hP8 (And.intro (HV.out.2.2.below hb8) (H6.out.2.2.trans (hb8.mono H6.out.2.2.size))))
    clear hP8 hb8
    go_wp2_with fail
    refine (equalP_any EA A8 ek ek ec c8 (envL V d n) (envL V d n) w8 HV.out.2.1 HV.out.2.1 (by omega) H8.out.2.1 H8.out.1).mono ?_
    rintro e w9 ⟨rfl, k9, rfl⟩
    have e1 : eqB (envL V d n) (envL V d n) = true := by unfold eqB; exact decide_eq_true rfl
    rw [e1]
    clear e1
    go_wp2_with fail
    refine (awake2_any w _ (below_drewN H8.out.2.2 k9)).mono ?_
    rintro e w10 ⟨rfl, hb10⟩
    have H10 := Lib.hid hb10
    clear hb10
    by_cases k0 : kind < 0
    · obtain ⟨rfl, rfl⟩ : bv = false ∧ fv = 2 := by
        rcases H6.out.1 with ⟨_, h⟩ | ⟨h, _⟩
        · exact h
        · simp only [Bool.and_eq_true, decide_eq_true_eq] at h; omega
      go_wp2_with fail
      go_ret
      exact ⟨rfl, H10.out⟩
    · by_cases k4 : 4 < kind
      · obtain ⟨rfl, rfl⟩ : bv = false ∧ fv = 2 := by
          rcases H6.out.1 with ⟨_, h⟩ | ⟨h, _⟩
          · exact h
          · simp only [Bool.and_eq_true, decide_eq_true_eq] at h; omega
        go_wp2_with fail
        go_ret
        exact ⟨rfl, H10.out⟩
      · obtain ⟨hbv, rfl⟩ : bv = fairB V d n kind ∧ fv = 0 := by
          rcases H6.out.1 with ⟨h, _⟩ | ⟨_, h⟩
          · rw [decide_eq_true (show 0 ≤ kind by omega), decide_eq_true (show kind ≤ 4 by omega)] at h; cases h
          · exact h
        have HBV := Lib.hid hbv
        clear hbv
        have hbb : (bv == bv) = true := by simp
        go_wp2_with fail
        refine (r1fair_any A n cap D nd capd kind V d w10 H.out.1 (by omega) H.out.2.2.1 (by omega) (by omega) (by rw [← H.out.1]; exact HV.out.1) (H.out.2.1.below H10.out) (H.out.2.2.2.below H10.out)).mono ?_
        rintro e w11 ⟨rfl, k11, rfl⟩
        rw [← HBV.out]
        go_wp2_with fail
        go_ret
        exact ⟨rfl, below_drewN H10.out _⟩
end Go.Proofs.Ytkljambjdiblkaa
