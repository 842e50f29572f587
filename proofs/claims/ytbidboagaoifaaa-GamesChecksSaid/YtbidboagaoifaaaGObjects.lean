/- Contract: Objects of package games. -/
import Derived.Test.YtbidboagaoifaaaCheckCore
namespace Go.Proofs.Ytbidboagaoifaaa
open Go.RowKit

/-- What Objects answers. -/
def obG (c : List Int) (ps : List (Int × Int)) : Int × Int := if valC c && sumB c ps (plr c) then (if (objI c ps (plr c) c.length).1 = 0 then (0, 4) else (((objI c ps (plr c) c.length).1 : Nat), 0)) else (0, 2)

set_option maxRecDepth 100000 in
set_option maxHeartbeats 1600000 in
theorem gobjects_any (C : Option Addr) (N capc : Nat) (A : Option Addr) (m cap : Nat) (c : List Int) (ps : List (Int × Int)) (w : World) (hlc : c.length = N) (hNm : N ≤ 9223372036854775807) (hl : ps.length = m) (hm : m ≤ 9223372036854775807)
    (hc : Ints w C c) (h : Prs w A ps) (hr : ∀ p ∈ ps, (-9223372036854775808 ≤ p.1 ∧ p.1 ≤ 9223372036854775807) ∧ -9223372036854775808 ≤ p.2 ∧ p.2 ≤ 9223372036854775807) :
    Calls Try.prog 37 #[.slice C N capc, .slice A m cap] w fun e w' => e = .returned (.tuple #[.int .i64 (obG c ps).1, .int .i64 (obG c ps).2]) ∧ Below w.heap.size w w' := by
  have H := Lib.hid (And.intro hlc (And.intro hl (And.intro hc (And.intro h hr))))
  clear hlc hl hc h hr
  cases hv : valC c
  · have HV : Hid (obG c ps = (0, 2)) := Lib.hid (by simp [obG, hv])
    have HVV := Lib.hid hv
    clear hv
    go_enter Try.func37, Try.ntmps37
    go_wp2_with fail
    refine (valid_any C N capc c _ H.out.1 hNm H.out.2.2.1).mono ?_
    rintro e w1 ⟨rfl, hb⟩
    rw [HVV.out]
    have HB := Lib.hid hb
    clear hb
    go_wp2_with fail
    go_ret2
    exact ⟨by rw [HV.out]; rfl, HB.out⟩
  · have hpw := valC_pow hv
    have hlen := (valC_iff.1 hv).1
    obtain ⟨n, hn⟩ : ∃ n, n = plr c := ⟨_, rfl⟩
    have HV : Hid (obG c ps = if sumB c ps n then (if (objI c ps n N).1 = 0 then (0, 4) else ((((objI c ps n N).1 : Nat) : Int), (0 : Int))) else (0, 2)) := Lib.hid (by unfold obG; rw [hv, Bool.true_and, ← hn, H.out.1])
    rw [← hn] at hpw
    have hN16 : 2 ≤ N ∧ N ≤ 16 := by have := H.out.1; omega
    have hC : ∃ ac, C = some ac := by obtain ⟨ac, h, _⟩ := H.out.2.2.1.some_ (by have := H.out.1; omega); exact ⟨ac, h⟩
    obtain ⟨ac, rfl⟩ := hC
    have HVV := Lib.hid (And.intro hv (And.intro hn hpw))
    have hn4 : 1 ≤ n ∧ n ≤ 4 := hpw.2
    clear hv hpw hn hlen
    go_enter Try.func37, Try.ntmps37
    go_wp2_with fail
    refine (valid_any (some ac) N capc c _ H.out.1 hNm H.out.2.2.1).mono ?_
    rintro e w1 ⟨rfl, hb⟩
    rw [HVV.out.1]
    have HB := Lib.hid hb
    clear hb
    go_wp2_with fail
    refine (payments_any (some ac) N capc A m cap n ps _ hn4.1 hn4.2 (by rw [← H.out.1]; exact HVV.out.2.2.1) H.out.2.1 hm (H.out.2.2.2.1.below HB.out) H.out.2.2.2.2).mono ?_
    rintro e w2 ⟨hb2, hp | hp⟩
    · obtain ⟨hp, g, rfl, hg, hG⟩ := hp
      have HB2 := Lib.hid (And.intro (HB.out.trans (hb2.mono HB.out.size)) (And.intro hG hp))
      have HI := Lib.hid (H.out.2.2.1.below (HB.out.trans (hb2.mono HB.out.size)))
      obtain ⟨n1, x, y, hF⟩ := payIn H.out.1 HVV.out.1 HVV.out.2.1 hp
      have c1 : w2.cell? (ac.add n1) = some (.int .i64 x) := HI.out.some2 n1 _ (by simp [hF.hx])
      have c2 : w2.cell? ⟨g, n1, none⟩ = some (.int .i64 y) := by rw [hG.cell, arr_get, hF.hy]; rfl
      have hxb := hF.hxb
      have hyb := hF.hyb
      have hn1 := hF.hN1
      have HALL : Hid (∀ m, Calls Try.prog 68 #[.slice (some ac) N capc] (w2.drewN m) fun e w'' => e = .returned (.int .i64 x) ∧ ∃ j, w'' = w2.drewN j) := Lib.hid fun m => all_q ac N n1 capc m x w2 hn1 hN16.2 c1
      have e1 : IntKind.i64.wrap ((N : Int) - 1) = (n1 : Int) := by rw [IntWalk.i64_in _ (by omega)]; omega
      have e2 : (N : Int) - 1 = (n1 : Int) := by omega
      have l1 : (n1 : Int) < (N : Int) := by omega
      have l2 : (0 : Int) ≤ (n1 : Int) := by omega
      have e3 : IntKind.i64.wrap (x * 5354228880) = x * 5354228880 := IntWalk.i64_in _ (by omega)
      have HF := Lib.hid hF
      clear hb2 hG hp hF hn1 c1
      by_cases hne : y = x * 5354228880
      · have hq : (y != x * 5354228880) = false := by simp [hne]
        have HS : Hid (sumB c ps n = true) := Lib.hid (by rw [HF.out.hsum]; exact decide_eq_true hne)
        clear hne
        go_wp2_with fail
        go_quiet ((go_at_call 68; exact HALL.out _))
        clear e1 e2 e3 l1 l2 hq c2
        go_wp2_with fail
        go_loop [9, 10, 40] (fun bv mv iv => ∃ k : Nat, k ≤ N ∧ iv = .int .i64 k ∧ bv = .int .i64 ((objI c ps n k).1 : Nat) ∧ mv = .int .i64 (objI c ps n k).2 ∧ (objI c ps n k).2 ≤ 2200000000000000) (fun _ _ iv => N - (intOf iv).toNat)
        case atStart => exact ⟨0, Nat.zero_le _, rfl, rfl, rfl, by simp [objI]⟩
        case round =>
          obtain ⟨k, hk, rfl, rfl, rfl, hmb⟩ := hrel
          have hm0 := objI_nonneg c ps n k
          by_cases hlt : k < N
          · obtain ⟨z, hz⟩ : ∃ z, c[k]? = some z := ⟨_, List.getElem?_eq_getElem (by have := H.out.1; omega)⟩
            have c1 : w2.cell? (ac.add k) = some (.int .i64 z) := HI.out.some2 k _ (by simp [hz])
            have c2 : w2.cell? ⟨g, k, none⟩ = some (.int .i64 (pI ps n k)) := by rw [HB2.out.2.1.cell, arr_get, payRow_get hlt]; rfl
            have hzb := (valC_iff.1 HVV.out.1).2.2 z (List.mem_of_getElem? hz)
            have hpb := HF.out.hall k hlt
            have hgz : c.getD k 0 = z := by rw [List.getD_eq_getElem?_getD, hz]; rfl
            have hstep : objI c ps n (k + 1) = if (objI c ps n k).2 < pI ps n k - z * 5354228880 then (k, pI ps n k - z * 5354228880) else objI c ps n k := by
              rw [objI, hgz]; rfl
            obtain ⟨v, hvv⟩ : ∃ v, v = pI ps n k := ⟨_, rfl⟩
            rw [← hvv] at c2 hpb hstep
            obtain ⟨mo, hmo⟩ : ∃ mo, mo = (objI c ps n k).2 := ⟨_, rfl⟩
            rw [← hmo] at hm0 hmb hstep ⊢
            have HST := Lib.hid hstep
            have HMO := Lib.hid hmo
            clear hz hgz hvv hstep hmo
            by_cases hgt : mo < v - z * 5354228880
            · have HN : Hid (objI c ps n (k + 1) = (k, v - z * 5354228880)) := Lib.hid (by rw [HST.out, if_pos hgt])
              go_wp2_with fail
              go_round
              case rel => exact ⟨k + 1, by omega, by go_num, by rw [HN.out], by rw [HN.out], by rw [HN.out]; show v - z * 5354228880 ≤ _; omega⟩
              case measure => simp [intOf]; omega
            · have HN : Hid (objI c ps n (k + 1) = objI c ps n k) := Lib.hid (by rw [HST.out, if_neg hgt])
              go_wp2_with fail
              go_round
              case rel => exact ⟨k + 1, by omega, by go_num, by rw [HN.out], by rw [HN.out, HMO.out], by rw [HN.out, ← HMO.out]; exact hmb⟩
              case measure => simp [intOf]; omega
          · obtain rfl : N = k := by omega
            obtain ⟨b, hb⟩ : ∃ b, b = (objI c ps n N).1 := ⟨_, rfl⟩
            rw [← hb]
            by_cases hb0 : b = 0
            · have HR : Hid (obG c ps = (0, 4)) := Lib.hid (by rw [HV.out, HS.out, if_pos rfl, if_pos (by rw [← hb]; exact hb0)])
              have hq0 : ((b : Int) == 0) = true := by simp [hb0]
              clear hb hb0
              go_wp2_with fail
              go_ret2
              exact ⟨by rw [HR.out]; rfl, below_drewN HB2.out.1 _⟩
            · have HR : Hid (obG c ps = (((b : Nat) : Int), 0)) := Lib.hid (by rw [HV.out, HS.out, if_pos rfl, if_neg (by rw [← hb]; exact hb0), hb])
              have hq0 : ((b : Int) == 0) = false := by simp [hb0]
              clear hb hb0
              go_wp2_with fail
              go_ret2
              exact ⟨by rw [HR.out]; rfl, below_drewN HB2.out.1 _⟩
      · have hq : (y != x * 5354228880) = true := by simpa using hne
        have HR : Hid (obG c ps = (0, 2)) := Lib.hid (by rw [HV.out, HF.out.hsum, decide_eq_false hne]; rfl)
        clear hne
        go_wp2_with fail
        go_quiet ((go_at_call 68; exact HALL.out _))
        go_wp2_with fail
        go_ret2
        exact ⟨by rw [HR.out]; rfl, below_drewN HB2.out.1 _⟩
    · obtain ⟨hp, rfl⟩ := hp
      have HR : Hid (obG c ps = (0, 2)) := Lib.hid (by rw [HV.out, sumB_false_pay hp]; rfl)
      have HB2 := Lib.hid (HB.out.trans (hb2.mono HB.out.size))
      clear hb2 hp
      go_wp2_with fail
      go_quiet (fail)
      go_wp2_with fail
      go_ret2
      exact ⟨by rw [HR.out]; rfl, below_drewN HB2.out _⟩
end Go.Proofs.Ytbidboagaoifaaa
