/- Contracts: all, CheckCore and Objects of package games. -/
import Derived.Test.YtbidboagaoifaaaCoreLaw
namespace Go.Proofs.Ytbidboagaoifaaa
open Go.RowKit

theorem all_any (ac : Addr) (N n1 capc : Nat) (x : Int) (w : World) (hN : n1 + 1 = N) (hm : N ≤ 16) (hc : w.cell? (ac.add n1) = some (.int .i64 x)) :
    Calls Try.prog 68 #[.slice (some ac) N capc] w fun e w' => e = .returned (.int .i64 x) ∧ w = w' := by
  have e2 : (N : Int) - 1 = (n1 : Int) := by omega
  have l1 : (n1 : Int) < (N : Int) := by omega
  clear hN
  go_enter Try.func68, Try.ntmps68
  go_wp2_with fail
  go_ret
  exact ⟨rfl, rfl⟩
theorem all_q (ac : Addr) (N n1 capc m : Nat) (x : Int) (w : World) (hN : n1 + 1 = N) (hm : N ≤ 16) (hc : w.cell? (ac.add n1) = some (.int .i64 x)) :
    Calls Try.prog 68 #[.slice (some ac) N capc] (w.drewN m) fun e w'' => e = .returned (.int .i64 x) ∧ ∃ j, w'' = w.drewN j :=
  (all_any ac N n1 capc x _ hN hm (by simpa using hc)).mono fun _ _ hh => ⟨hh.1, m, hh.2.symm⟩

/-- What CheckCore answers. -/
def ccB (c : List Int) (ps : List (Int × Int)) : Bool := if valC c then coreI c ps (plr c) else false
def ccE (c : List Int) : Int := if valC c then 0 else 2

theorem sumB_false_pay {c : List Int} {ps : List (Int × Int)} {n : Nat} (h : payB n ps = false) : sumB c ps n = false := by unfold sumB; rw [h, Bool.false_and]
theorem coreI_of_sum {c : List Int} {ps : List (Int × Int)} {n : Nat} (h : sumB c ps n = false) : coreI c ps n = false := by unfold coreI; rw [h, Bool.false_and]

/-- The facts that both walks need once payments are valid. -/
structure PayIn (c : List Int) (ps : List (Int × Int)) (n N n1 : Nat) (x y : Int) : Prop where
  hN1 : n1 + 1 = N
  hx : c[n1]? = some x
  hxb : 0 ≤ x ∧ x ≤ 1000
  hy : (payRow (payN ps) n N)[n1]? = some y
  hyb : -2200000000000000 ≤ y ∧ y ≤ 2200000000000000
  hsum : sumB c ps n = decide (y = x * 5354228880)
  hall : ∀ s, s < N → -2200000000000000 ≤ pI ps n s ∧ pI ps n s ≤ 2200000000000000
theorem payIn {c : List Int} {ps : List (Int × Int)} {n N : Nat} (hl : c.length = N) (hv : valC c = true) (hn : n = plr c) (hp : payB n ps = true) : ∃ n1 x y, PayIn c ps n N n1 x y := by
  have hpw := valC_pow hv
  have hlen := (valC_iff.1 hv).1
  have hN : N = 2 ^ n := by rw [← hl, hn]; exact hpw.1
  obtain ⟨n1, hn1⟩ : ∃ n1, n1 + 1 = N := ⟨N - 1, by omega⟩
  obtain ⟨x, hx⟩ : ∃ x, c[n1]? = some x := ⟨_, List.getElem?_eq_getElem (by omega)⟩
  have hy := payRow_get (ns := payN ps) (k := n) (show n1 < N by omega)
  have hpa : (ps.take n).all (fun p => scB 24 p.1 p.2) = true := by
    unfold payB at hp
    rw [Bool.and_eq_true, List.all_eq_true] at hp
    exact List.all_eq_true.2 fun p h => hp.1 p (List.mem_of_mem_take h)
  have hb : ∀ s, -2200000000000000 ≤ pI ps n s ∧ pI ps n s ≤ 2200000000000000 := fun s => by
    have h := payN_take_bd hpa s n (Nat.le_refl _)
    have h4 : (n : Int) ≤ 4 := by rw [hn]; have := hpw.2.2; omega
    unfold pI
    omega
  have e1 : 2 ^ n - 1 = n1 := by omega
  refine ⟨n1, x, _, hn1, hx, (valC_iff.1 hv).2.2 x (List.mem_of_getElem? hx), hy, hb n1, ?_, fun s _ => hb s⟩
  unfold sumB
  rw [hp, Bool.true_and, e1, List.getD_eq_getElem?_getD, hx]
  rfl

set_option maxRecDepth 100000 in
set_option maxHeartbeats 1600000 in
theorem checkcore_any (C : Option Addr) (N capc : Nat) (A : Option Addr) (m cap : Nat) (c : List Int) (ps : List (Int × Int)) (w : World) (hlc : c.length = N) (hNm : N ≤ 9223372036854775807) (hl : ps.length = m) (hm : m ≤ 9223372036854775807)
    (hc : Ints w C c) (h : Prs w A ps) (hr : ∀ p ∈ ps, (-9223372036854775808 ≤ p.1 ∧ p.1 ≤ 9223372036854775807) ∧ -9223372036854775808 ≤ p.2 ∧ p.2 ≤ 9223372036854775807) :
    Calls Try.prog 41 #[.slice C N capc, .slice A m cap] w fun e w' => e = .returned (.tuple #[.bool (ccB c ps), .int .i64 (ccE c)]) ∧ Below w.heap.size w w' := by
  have H := Lib.hid (And.intro hlc (And.intro hl (And.intro hc (And.intro h hr))))
  clear hlc hl hc h hr
  cases hv : valC c
  · have HV : Hid (ccB c ps = false ∧ ccE c = 2) := Lib.hid ⟨by simp [ccB, hv], by simp [ccE, hv]⟩
    have HVV := Lib.hid hv
    clear hv
    go_enter Try.func41, Try.ntmps41
    go_wp2_with fail
    refine (valid_any C N capc c _ H.out.1 hNm H.out.2.2.1).mono ?_
    rintro e w1 ⟨rfl, hb⟩
    rw [HVV.out]
    have HB := Lib.hid hb
    clear hb
    go_wp2_with fail
    go_ret2
    exact ⟨by rw [HV.out.1, HV.out.2]; rfl, HB.out⟩
  · have hpw := valC_pow hv
    have hlen := (valC_iff.1 hv).1
    obtain ⟨n, hn⟩ : ∃ n, n = plr c := ⟨_, rfl⟩
    have HV : Hid (ccB c ps = coreI c ps n ∧ ccE c = 0) := Lib.hid ⟨by simp [ccB, hv, hn], by simp [ccE, hv]⟩
    rw [← hn] at hpw
    have hN16 : 2 ≤ N ∧ N ≤ 16 := by have := H.out.1; omega
    have hC : ∃ ac, C = some ac := by obtain ⟨ac, h, _⟩ := H.out.2.2.1.some_ (by have := H.out.1; omega); exact ⟨ac, h⟩
    obtain ⟨ac, rfl⟩ := hC
    have HVV := Lib.hid (And.intro hv (And.intro hn hpw))
    have hn4 : 1 ≤ n ∧ n ≤ 4 := hpw.2
    clear hv hpw hn hlen
    go_enter Try.func41, Try.ntmps41
    go_wp2_with fail
    refine (valid_any (some ac) N capc c _ H.out.1 hNm H.out.2.2.1).mono ?_
    rintro e w1 ⟨rfl, hb⟩
    rw [HVV.out.1]
    have HB := Lib.hid hb
    clear hb
    go_wp2_with fail
    refine (payments_any (some ac) N capc A m cap n ps _ hn4.1 hn4.2 (by rw [← H.out.1]; exact HVV.out.2.2.1) H.out.2.1 hm (H.out.2.2.2.1.below HB.out) H.out.2.2.2.2).mono ?_
    rintro e w2 ⟨hb2, hp | hp⟩
    · obtain ⟨hp, g, rfl, hg, hG⟩ := hp
      have HB2 := Lib.hid (And.intro (HB.out.trans (hb2.mono HB.out.size)) (And.intro hG hp))
      have HI := Lib.hid (H.out.2.2.1.below (HB.out.trans (hb2.mono HB.out.size)))
      obtain ⟨n1, x, y, hF⟩ := payIn H.out.1 HVV.out.1 HVV.out.2.1 hp
      have c1 : w2.cell? (ac.add n1) = some (.int .i64 x) := HI.out.some2 n1 _ (by simp [hF.hx])
      have c2 : w2.cell? ⟨g, n1, none⟩ = some (.int .i64 y) := by rw [hG.cell, arr_get, hF.hy]; rfl
      have hxb := hF.hxb
      have hyb := hF.hyb
      have hn1 := hF.hN1
      have HALL : Hid (∀ m, Calls Try.prog 68 #[.slice (some ac) N capc] (w2.drewN m) fun e w'' => e = .returned (.int .i64 x) ∧ ∃ j, w'' = w2.drewN j) := Lib.hid fun m => all_q ac N n1 capc m x w2 hn1 hN16.2 c1
      have e1 : IntKind.i64.wrap ((N : Int) - 1) = (n1 : Int) := by rw [IntWalk.i64_in _ (by omega)]; omega
      have e2 : (N : Int) - 1 = (n1 : Int) := by omega
      have l1 : (n1 : Int) < (N : Int) := by omega
      have l2 : (0 : Int) ≤ (n1 : Int) := by omega
      have e3 : IntKind.i64.wrap (x * 5354228880) = x * 5354228880 := IntWalk.i64_in _ (by omega)
      have HF := Lib.hid hF
      clear hb2 hG hp hF hn1 c1
      by_cases hne : y = x * 5354228880
      · have hq : (y != x * 5354228880) = false := by simp [hne]
        have HS : Hid (sumB c ps n = true) := Lib.hid (by rw [HF.out.hsum]; exact decide_eq_true hne)
        clear hne
        go_wp2_with fail
        go_quiet ((go_at_call 68; exact HALL.out _))
        clear e1 e2 e3 l1 l2 hq c2
        go_wp2_with fail
        go_loop [37] (fun iv => ∃ k : Nat, k ≤ N ∧ iv = .int .i64 k ∧ coreTo c ps n k = true) (fun iv => N - (intOf iv).toNat)
        case atStart => exact ⟨0, Nat.zero_le _, rfl, rfl⟩
        case round =>
          obtain ⟨k, hk, rfl, ht⟩ := hrel
          have HT := Lib.hid ht
          clear ht
          by_cases hlt : k < N
          · obtain ⟨z, hz⟩ : ∃ z, c[k]? = some z := ⟨_, List.getElem?_eq_getElem (by have := H.out.1; omega)⟩
            have c1 : w2.cell? (ac.add k) = some (.int .i64 z) := HI.out.some2 k _ (by simp [hz])
            have c2 : w2.cell? ⟨g, k, none⟩ = some (.int .i64 (pI ps n k)) := by rw [HB2.out.2.1.cell, arr_get, payRow_get hlt]; rfl
            have hzb := (valC_iff.1 HVV.out.1).2.2 z (List.mem_of_getElem? hz)
            have hpb := HF.out.hall k hlt
            have hgz : c.getD k 0 = z := by rw [List.getD_eq_getElem?_getD, hz]; rfl
            have HP : Hid (z * PD = z * 5354228880 ∧ c.getD k 0 = z) := Lib.hid ⟨rfl, hgz⟩
            obtain ⟨v, hvv⟩ : ∃ v, v = pI ps n k := ⟨_, rfl⟩
            have HVp := Lib.hid hvv
            rw [← hvv] at c2 hpb
            clear hz hgz hvv
            by_cases hgt : z * 5354228880 < v
            · have HR : Hid (coreI c ps n = false) := Lib.hid (by unfold coreI; rw [coreTo_stop (k := k) (by rw [← HVV.out.2.2.1, H.out.1]; exact hlt) (by rw [HP.out.2, HP.out.1, ← HVp.out]; omega), Bool.and_false])
              go_wp2_with fail
              go_ret2
              exact ⟨by rw [HV.out.1, HV.out.2, HR.out]; rfl, below_drewN HB2.out.1 _⟩
            · have HN : Hid (coreTo c ps n (k + 1) = true) := Lib.hid (by rw [coreTo_succ, HT.out, HP.out.2, HP.out.1, ← HVp.out, decide_eq_true (by omega)]; rfl)
              go_wp2_with fail
              go_round
              case rel => exact ⟨k + 1, by omega, by go_num, HN.out⟩
              case measure => simp [intOf]; omega
          · obtain rfl : N = k := by omega
            have HR : Hid (coreI c ps n = true) := Lib.hid (by unfold coreI; rw [HS.out, ← HVV.out.2.2.1, H.out.1, HT.out]; rfl)
            go_wp2_with fail
            go_ret2
            exact ⟨by rw [HV.out.1, HV.out.2, HR.out]; rfl, below_drewN HB2.out.1 _⟩
      · have hq : (y != x * 5354228880) = true := by simpa using hne
        have HR : Hid (coreI c ps n = false) := Lib.hid (coreI_of_sum (by rw [HF.out.hsum]; exact decide_eq_false hne))
        clear hne
        go_wp2_with fail
        go_quiet ((go_at_call 68; exact HALL.out _))
        go_wp2_with fail
        go_ret2
        exact ⟨by rw [HV.out.1, HV.out.2, HR.out]; rfl, below_drewN HB2.out.1 _⟩
    · obtain ⟨hp, rfl⟩ := hp
      have HR : Hid (coreI c ps n = false) := Lib.hid (coreI_of_sum (sumB_false_pay hp))
      have HB2 := Lib.hid (HB.out.trans (hb2.mono HB.out.size))
      clear hb2 hp
      go_wp2_with fail
      go_quiet (fail)
      go_wp2_with fail
      go_ret2
      exact ⟨by rw [HV.out.1, HV.out.2, HR.out]; rfl, below_drewN HB2.out _⟩
end Go.Proofs.Ytbidboagaoifaaa
