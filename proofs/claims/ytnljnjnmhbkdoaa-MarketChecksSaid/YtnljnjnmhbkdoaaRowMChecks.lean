/- MarketChecks returns true for every input, and its arguments read afterwards as before: the given statement. No condition. -/
import Derived.Test.YtnljnjnmhbkdoaaBaseM6
import Derived.Test.YtnljnjnmhbkdoaaMarketChecksM1
namespace Go.Proofs.Ytnljnjnmhbkdoaa
open Go.ChangeShapes Go.WideShapes Go.ChangeAt Go.RowKit

set_option maxRecDepth 100000 in
theorem marketChecks_lifted (os : Os) (started : os.Started) (H : Type) (enc : TypeId × Value → H) :
    ReturnsInHanded {} Try.checked os 11 .any (Rows.marketChecksSpec.pre6 enc Try.prog Try.f11 Rows.marketChecksRow.domain false) (Rows.marketChecksSpec.post enc Try.prog Try.f11 false true false false) := by
  refine returnsInHanded_of_change (C := Try.checked) t_own started (by kernel_rfl) Try.func11
    (ChangeSpec.witness6 (enc := enc) (C := Try.checked) false ⟨#[], #[.agg #[.slice none 0 0, .slice none 0 0], .slice none 0 0, .slice none 0 0], []⟩ 8 (by kernel_rfl) (by kernel_rfl) (by kernel_rfl) (by kernel_rfl)) ?_
  intro W base args ds gs before hval0 hW hcnd _
  have hval : ∀ (j : Nat) t v, Try.f11.params[j]? = some t → args[j]? = some v → Value.okWide Try.prog W .any base t v := hval0
  have hW' := hW
  obtain ⟨p, q, hA0, hV, rfl, hfz, hnd⟩ := hW
  have hA : DataW.TrodAll enc Try.prog W 0 (fun _ => true) true Try.f11.params.toList args.toList ds p := hA0
  have hA1 := hA
  rw [Try.params11] at hA hval
  obtain ⟨v0, v1, v2, d0, d1, d2, p0, p1, p2, rfl, rfl, rfl, h0, h1, h2⟩ := trodAll_three hA
  obtain ⟨rfl, rfl⟩ := trodVars_none hV
  obtain ⟨A0, n0, c0, U0, m0, d0', B0, V0, rfl, hK0⟩ := open_mktI h0 (hval 0 25 v0 rfl rfl)
  obtain ⟨A1, cap1, xs1, rfl, hc1, hm1, hI1, hx1⟩ := open_fracs4 h1 (okWide_slice Try.underlying26 (hval 1 26 v1 rfl rfl))
  obtain ⟨A2, cap2, xs2, rfl, hc2, hm2, hI2, hx2⟩ := open_fracss4 h2 (okWide_slice Try.underlying43 (hval 2 43 v2 rfl rfl))
  clear hA0 hval0
  refine (law_mchecks A0 n0 c0 U0 m0 d0' B0 V0 A1 cap1 xs1 A2 cap2 xs2 W hK0 hc1 hm1 hI1 hx1 hc2 hm2 hI2 hx2).mono fun e W' ⟨he, hb⟩ => ?_
  subst he
  have hlt : ∀ x ∈ (p0 ++ p1 ++ p2) ++ [], x.block < W.heap.size := fun x hx => hW'.lt x hx
  exact ⟨_, rfl, post_of_below (pa := p0 ++ p1 ++ p2) (pv := []) hW' (fun _ _ _ => trodAll_mk1 (shut_bool Try.underlying4 _))
    (fun sp hsp => trodAll_below hb sp _ _ _ _ (by rw [Try.params11]; intro t ht; simp at ht; rcases ht with rfl | rfl | rfl <;> exact ⟨by kernel_rfl, of_decide_eq_true (by kernel_rfl)⟩) (fun x hx => hlt x (by simpa using hx)) (fun x hx => hsp x (by simpa using hx)) hA1)
    (fun _ _ => rfl) rfl hb (ok_one (by kernel_rfl) rfl (okWide_bool_mk Try.underlying4 _))⟩

theorem marketChecks_holds : Rows.MarketChecksSaid :=
  OpenClaim.holds_of_wide 11 Try.f11 rfl rfl rfl rfl rfl rfl rfl ⟨rfl, rfl, rfl, rfl, rfl⟩ rfl rfl rfl rfl rfl (by kernel_rfl) Try.func11 (by kernel_rfl)
    (of_decide_eq_true (by kernel_rfl)) (by unfold Func.isWrapper; first | (rw [if_pos (by decide +kernel)]; kernel_rfl) | (rw [if_neg (by decide +kernel)]; exact ⟨rfl, rfl⟩))
    (fun os started H enc _ => marketChecks_lifted os started H enc)
#print axioms marketChecks_holds
end Go.Proofs.Ytnljnjnmhbkdoaa
