/- Laws and contracts that the proof of GamesPlus uses, part 2. -/
import Derived.Test.YtbidboagaoifaaaGamesPlusM1
import Derived.Deep.LoopGhost
import Derived.Deep.DeepCutAuto
import Derived.Test.YtbidboagaoifaaaProg
import Derived.Laws.EntriesVeiled
import Derived.KernelRfl
import Derived.StillTailTactics
namespace Go.Proofs.Ytbidboagaoifaaa
open Go.RowKit

/- Contract: solve of package games. -/

/-- What solve leaves. -/
def SolvePost (f : Nat → Nat → Int) (n B : Nat) (w : World) (e : Ending) (w' : World) : Prop :=
  (slvTo f n n = none ∧ e = .returned (.tuple #[.slice none 0 0, .int .i64 0]) ∧ Below B w w') ∨
  ∃ h l A c, slvTo f n n = some (h, l) ∧ e = .returned (.tuple #[.slice A n c, .int .i64 l]) ∧ w'.ownsRow B 3 1 (.slice A n c) n ((List.range n).map fun i => .int .i64 (h i n)) ∧ Below B w w'

set_option maxRecDepth 100000 in
set_option maxHeartbeats 3200000 in
theorem solve_any (g cap n : Nat) (R C : Nat → Nat) (f : Nat → Nat → Int) (B : Nat) (w : World) (hn : 1 ≤ n ∧ n ≤ 4) (hM : Mtx w g n R C f) (hg : B ≤ g) (hR : ∀ i, i < n → B ≤ R i) (hs : SafeM f n) (hB : B ≤ w.heap.size) :
    Calls Try.prog 77 #[.slice (some ⟨g, 0, none⟩) n cap] w (SolvePost f n B w) := by
  have H := Lib.hid (And.intro hM (And.intro hR hs))
  clear hM hR hs
  go_enter Try.func77, Try.ntmps77
  go_wp2_with fail
  go_loopg [2, 5, 15] (n + 1) (fun gh rv lv kv wr => ∃ (k : Nat) (R C : Nat → Nat) (h : Nat → Nat → Int) (l : Int), k ≤ n ∧ rv = .slice none 0 0 ∧ gh = n + 1 - k ∧ kv = .int .i64 k ∧ lv = .int .i64 l ∧ slvTo f n k = some (h, l) ∧ Mtx wr g n R C h ∧ (∀ i, i < n → B ≤ R i) ∧ Below B w wr)
  case atStart => exact ⟨0, R, C, f, 1, Nat.zero_le _, rfl, rfl, rfl, rfl, rfl, H.out.1, H.out.2.1, Below.refl _ _⟩
  case round =>
    obtain ⟨k, R, C, h, l, hk, rfl, hgh, rfl, rfl, hsl, hM, hR, hbl⟩ := hrel
    have hsafe := H.out.2.2 k h l hk hsl
    have HR := Lib.hid (And.intro hsl (And.intro hM (And.intro hR (And.intro hbl hsafe))))
    have hl0 := hsafe.1
    have hl1 := hsafe.2.1
    have hl2 := hsafe.2.2.1
    clear hsl hM hR hbl hsafe
    by_cases hlt : k < n
    · have l1 : (k : Int) < (n : Int) := by omega
      go_wp2_with fail
      go_loop [7] (fun pv => ∃ p : Nat, k ≤ p ∧ p ≤ n ∧ pv = .int .i64 p ∧ ∀ r, k ≤ r → r < p → h r k = 0) (fun pv => n - (intOf pv).toNat)
      case atStart => exact ⟨k, Nat.le_refl _, hk, rfl, fun r h1 h2 => by omega⟩
      case round =>
        obtain ⟨p, hkp, hp, rfl, h0⟩ := hrel
        have HP := Lib.hid h0
        clear h0
        by_cases hpn : p < n
        · have a1 := (HR.out.2.1.rows p hpn).1
          have a2 := (HR.out.2.1.cells p k hpn (by omega)).1
          have l2 : (p : Int) < (n : Int) := by omega
          have l3 : (k : Int) < ((n + 1 : Nat) : Int) := by omega
          obtain ⟨y, hy⟩ : ∃ y, y = h p k := ⟨_, rfl⟩
          rw [← hy] at a2
          have HY := Lib.hid hy
          clear hy
          by_cases hy0 : y = 0
          · have d1 : (y == 0) = true := by simp [hy0]
            have HZ : Hid (h p k = 0) := Lib.hid (by rw [← HY.out]; exact hy0)
            clear hy0
            go_wp2_with fail
            go_round
            case rel => exact ⟨p + 1, by omega, by omega, by go_num, fun r h1 h2 => by
              rcases Nat.lt_succ_iff_lt_or_eq.1 h2 with e | e
              · exact HP.out r h1 e
              · rw [e]; exact HZ.out⟩
            case measure => simp [intOf]; omega
          · have d1 : (y == 0) = false := by simp [hy0]
            have HQ : Hid (piv h n k = p) := Lib.hid (piv_hit hkp hpn HP.out (by rw [← HY.out]; exact hy0))
            clear hy0
            have hne : ¬ (p : Int) = (n : Int) := by omega
            go_upto_if 39 with fail
            go_cut [2, 8, 15] (fun rv _ kv wx => rv = .slice none 0 0 ∧ kv = .int .i64 k ∧ ∃ R' C', Mtx wx g n R' C' (swapM h k p) ∧ (∀ i, i < n → B ≤ R' i) ∧ Below B w wx)
            case first =>
              by_cases hpk : p = k
              · have d2 : ((p : Int) != (k : Int)) = false := by simp [hpk]
                have HE : Hid (swapM h k p = h) := Lib.hid (by unfold swapM; rw [if_pos hpk])
                clear hpk
                go_wp2_with fail
                go_meet
                case rel => exact ⟨rfl, rfl, R, C, by rw [HE.out]; exact HR.out.2.1, HR.out.2.2.1, HR.out.2.2.2.1⟩
              · have d2 : ((p : Int) != (k : Int)) = true := by rw [bne_iff_ne]; omega
                have b1 := (HR.out.2.1.rows k hlt).1
                have b2 := (HR.out.2.1.rows k hlt).2
                have b3 := (HR.out.2.1.rows p hpn).2
                have HSW := Lib.hid (HR.out.2.1.swap hlt hpn hpk)
                have hBS : Below B w ((wr.setCell ⟨g, k, none⟩ (.slice (some ⟨R p, 0, none⟩) (n + 1) (C p))).setCell ⟨g, p, none⟩ (.slice (some ⟨R k, 0, none⟩) (n + 1) (C k))) := (HR.out.2.2.2.1.setCell (p := ⟨g, k, none⟩) hg _).setCell (p := ⟨g, p, none⟩) hg _
                have HBS := Lib.hid hBS
                clear hBS a2 hne
                go_wp2_with fail
                go_region
                go_wp2_with fail
                obtain ⟨w2, hw2⟩ : ∃ w2, w2 = ((wr.setCell ⟨g, k, none⟩ (.slice (some ⟨R p, 0, none⟩) (n + 1) (C p))).setCell ⟨g, p, none⟩ (.slice (some ⟨R k, 0, none⟩) (n + 1) (C k))).drew := ⟨_, rfl⟩
                have hM2 : Mtx w2 g n (fun i => R (swp k p i)) (fun i => C (swp k p i)) (fun i j => h (swp k p i) j) := by rw [hw2]; exact HSW.out.drew
                have hb2 : Below B w w2 := by rw [hw2]; exact HBS.out.drew
                have hbd : ∀ j, j ≤ n → -100000000 ≤ h p j ∧ h p j ≤ 100000000 := fun j hj => HR.out.2.2.2.2.2.2.2 p j hpn hj
                have esk : swp k p k = p := by unfold swp; rw [if_pos rfl]
                have hcap : ∃ Rk Ck, Rk = R (swp k p k) ∧ Ck = C (swp k p k) := ⟨_, _, rfl, rfl⟩
                have H2 := Lib.hid (And.intro hM2 (And.intro hb2 (And.intro hbd esk)))
                have hR2 : ∀ i, i < n → B ≤ R (swp k p i) := fun i hi => HR.out.2.2.1 _ (swp_lt hlt hpn hi)
                have HR2 := Lib.hid hR2
                rw [← hw2]
                clear hw2 hM2 hb2 hbd esk hcap HSW HBS b1 b2 b3 a1 hR2
                go_loopw [59] (fun jv wx => ∃ j : Nat, j ≤ n + 1 ∧ jv = .int .i64 j ∧ Mtx wx g n (fun i => R (swp k p i)) (fun i => C (swp k p i)) (fun a b => if a = k ∧ b < j then -(h (swp k p a) b) else h (swp k p a) b) ∧ Below B w wx) (fun jv _ => n + 1 - (intOf jv).toNat)
                case atStart => exact ⟨0, Nat.zero_le _, rfl, H2.out.1.congr (fun i j _ _ => by rw [if_neg (by omega)]), H2.out.2.1⟩
                case round =>
                  obtain ⟨j, hj, rfl, hM3, hb3⟩ := hrel
                  have H3 := Lib.hid (And.intro hM3 hb3)
                  clear hM3 hb3
                  by_cases hjn : j < n + 1
                  · have c1 := (H3.out.1.rows k hlt).1
                    have c2 := (H3.out.1.cells k j hlt (by omega)).1
                    have c3 := (H3.out.1.cells k j hlt (by omega)).2
                    have hset := H3.out.1.set hlt (show j ≤ n by omega) (-(h p j))
                    have hbd := H2.out.2.2.1 j (by omega)
                    have esk := H2.out.2.2.2
                    simp only [esk] at c1 c2 c3 hset
                    rw [if_neg (by omega)] at c2
                    have HS := Lib.hid (And.intro hset (H3.out.2.setCell (p := ⟨R p, j, none⟩) (HR.out.2.2.1 p hpn) (.int .i64 (-(h p j)))))
                    obtain ⟨z, hz⟩ : ∃ z, z = h p j := ⟨_, rfl⟩
                    rw [← hz] at c2 hbd HS
                    have HZ := Lib.hid hz
                    have l4 : (j : Int) < ((n + 1 : Nat) : Int) := by omega
                    have l5 : ((n + 1 : Nat) : Int) = (n : Int) + 1 := by omega
                    clear hset esk hz
                    have en : IntKind.i64.wrap (-z) = -z := IntWalk.i64_in _ (by omega)
                    go_wp2_with fail
                    go_region
                    go_wp2_with fail
                    go_roundw
                    case rel =>
                      refine ⟨j + 1, by omega, by go_num, (HS.out.1.congr (fun a b ha hb => ?_)).drew, HS.out.2.drew⟩
                      unfold upd
                      dsimp only
                      by_cases e : a = k ∧ b = j
                      · rw [if_pos e, if_pos ⟨e.1, by omega⟩, e.1, e.2, H2.out.2.2.2, HZ.out]
                      · rw [if_neg e]
                        by_cases e2 : a = k ∧ b < j
                        · rw [if_pos e2, if_pos ⟨e2.1, by omega⟩]
                        · rw [if_neg e2, if_neg (fun h => by have := h.2; have := h.1; omega)]
                    case measure => simp [intOf]; omega
                  · obtain rfl : j = n + 1 := by omega
                    go_wp2_with fail
                    go_meet
                    case rel =>
                      refine ⟨rfl, rfl, _, _, H3.out.1.congr (fun a b ha hb => ?_), HR2.out, H3.out.2⟩
                      unfold swapM
                      rw [if_neg hpk]
                      by_cases e : a = k
                      · rw [if_pos ⟨e, by omega⟩, if_pos e, e, H2.out.2.2.2]
                      · rw [if_neg (fun h => e h.1), if_neg e]
                        unfold swp
                        rw [if_neg e]
                        split <;> rfl
            case rest =>
              obtain ⟨rfl, rfl, R', C', hM', hR', hbl'⟩ := hcut
              have hnext : slvTo f n (k + 1) = some (red (swapM h k p) k l, swapM h k p k k) := by
                rw [slvTo, HR.out.1]
                simp only
                rw [HQ.out, if_neg (by omega)]
              have hsf := H.out.2.2 (k + 1) _ _ (by omega) hnext
              obtain ⟨f1, hf1⟩ : ∃ f1, f1 = swapM h k p := ⟨_, rfl⟩
              rw [← hf1] at hM' hnext hsf
              have hfb : ∀ i j, i < n → j ≤ n → -100000000 ≤ f1 i j ∧ f1 i j ≤ 100000000 := by
                intro i j hi hj
                have h1 := HR.out.2.2.2.2.2.2.2 i j hi hj
                have h2 := HR.out.2.2.2.2.2.2.2 p j hpn hj
                have h3 := HR.out.2.2.2.2.2.2.2 k j hlt hj
                rw [hf1]
                unfold swapM
                split
                · exact h1
                · dsimp only
                  split
                  · omega
                  · split
                    · exact h3
                    · exact h1
              obtain ⟨f2, hf2⟩ : ∃ f2, f2 = red f1 k l := ⟨_, rfl⟩
              rw [← hf2] at hnext hsf
              have hk2 : f2 k = f1 k := by rw [hf2]; funext j; unfold red; rw [if_pos rfl]
              have hz2 : ∀ i, i ≠ k → f2 i k = 0 := by intro i hi; rw [hf2]; unfold red; rw [if_neg hi, if_pos rfl]
              have ho2 : ∀ i j, i ≠ k → j ≠ k → f2 i j = (f1 i j * f1 k k - f1 i k * f1 k j).tdiv l := by intro i j hi hj; rw [hf2]; unfold red; rw [if_neg hi, if_neg hj]
              have HF := Lib.hid (And.intro hfb (And.intro hk2 (And.intro hz2 (And.intro ho2 (And.intro hnext hsf)))))
              have HC := Lib.hid (And.intro hM' (And.intro hR' hbl'))
              clear hnext hsf hfb hk2 hz2 ho2 hM' hR' hbl' hf1 hf2 HY HQ HP a1 a2 hne
              go_wp2_with fail
              go_loopw [78] (fun iv wx => ∃ i : Nat, i ≤ n ∧ iv = .int .i64 i ∧ Mtx wx g n R' C' (midM f1 f2 k i (n + 1)) ∧ Below B w wx) (fun iv _ => n - (intOf iv).toNat)
              case atStart => exact ⟨0, Nat.zero_le _, rfl, HC.out.1.congr (fun i j hi hj => by unfold midM; rw [if_neg (by omega)]), HC.out.2.2⟩
              case round =>
                obtain ⟨i, hi, rfl, hM4, hb4⟩ := hrel
                have H4 := Lib.hid (And.intro hM4 hb4)
                clear hM4 hb4
                by_cases hin : i < n
                · have l4 : (i : Int) < (n : Int) := by omega
                  by_cases hik : i = k
                  · have d3 : ((i : Int) == (k : Int)) = true := by simp [hik]
                    have HK := Lib.hid hik
                    clear hik
                    go_wp2_with fail
                    go_roundw
                    case rel =>
                      refine ⟨i + 1, by omega, by go_num, H4.out.1.congr (fun a b ha hb => ?_), H4.out.2⟩
                      unfold midM
                      by_cases e : a = i
                      · rw [if_neg (by have := HK.out; omega), if_neg (by have := HK.out; omega)]
                      · by_cases e2 : a < i ∧ a ≠ k
                        · rw [if_pos (.inl e2), if_pos (.inl ⟨by omega, e2.2⟩)]
                        · rw [if_neg (by omega), if_neg (by omega)]
                    case measure => simp [intOf]; omega
                  · have d3 : ((i : Int) == (k : Int)) = false := by rw [beq_eq_false_iff_ne]; omega
                    go_wp2_with fail
                    go_loopw [10] (fun jv wx => ∃ q : Nat, q ≤ n + 1 ∧ jv = .int .i64 ((q : Int) - 1) ∧ Mtx wx g n R' C' (midM f1 f2 k i q) ∧ Below B w wx) (fun jv _ => (intOf jv + 1).toNat)
                    case atStart => exact ⟨n + 1, Nat.le_refl _, by rw [show ((n + 1 : Nat) : Int) - 1 = (n : Int) from by omega], H4.out.1, H4.out.2⟩
                    case round =>
                      obtain ⟨q, hq, rfl, hM5, hb5⟩ := hrel
                      have H5 := Lib.hid (And.intro hM5 hb5)
                      clear hM5 hb5
                      by_cases hq0 : q = 0
                      · subst hq0
                        have c1 := (H5.out.1.rows i hin).1
                        have c3 := (H5.out.1.cells i k hin (by omega)).2
                        have c4 := (H5.out.1.cells i k hin (by omega)).1
                        have HS := Lib.hid (And.intro (H5.out.1.set hin (show k ≤ n by omega) 0) (H5.out.2.setCell (p := ⟨R' i, k, none⟩) (HC.out.2.1 i hin) (.int .i64 0)))
                        go_wp2_with fail
                        go_roundw
                        case rel =>
                          refine ⟨i + 1, by omega, by go_num, HS.out.1.congr (fun a b ha hb => ?_), HS.out.2⟩
                          unfold upd midM
                          by_cases e : a = i ∧ b = k
                          · rw [if_pos e, if_pos (.inl ⟨by omega, by omega⟩), e.1, e.2, HF.out.2.2.1 i hik]
                          · rw [if_neg e]
                            by_cases e2 : (a < i ∧ a ≠ k) ∨ (a = i ∧ 0 ≤ b ∧ b ≠ k)
                            · rw [if_pos e2, if_pos (.inl (by omega))]
                            · rw [if_neg e2, if_neg (by omega)]
                        case measure => simp [intOf]; omega
                      · obtain ⟨j, rfl⟩ : ∃ j, q = j + 1 := ⟨q - 1, by omega⟩
                        have ej : ((j + 1 : Nat) : Int) - 1 = (j : Int) := by omega
                        rw [ej]
                        clear ej
                        have l5 : (0 : Int) ≤ (j : Int) := by omega
                        by_cases hjk : j = k
                        · have d4 : ((j : Int) != (k : Int)) = false := by simp [hjk]
                          have HK := Lib.hid hjk
                          clear hjk
                          go_wp2_with fail
                          go_roundw
                          case rel =>
                            refine ⟨j, by omega, rfl, H5.out.1.congr (fun a b ha hb => ?_), H5.out.2⟩
                            have := HK.out
                            unfold midM
                            by_cases e2 : (a < i ∧ a ≠ k) ∨ (a = i ∧ j + 1 ≤ b ∧ b ≠ k)
                            · rw [if_pos e2, if_pos (by omega)]
                            · rw [if_neg e2, if_neg (by omega)]
                          case measure => simp [intOf]
                        · have d4 : ((j : Int) != (k : Int)) = true := by rw [bne_iff_ne]; omega
                          have r1 := (H5.out.1.rows i hin).1
                          have r2 := (H5.out.1.rows k hlt).1
                          have q1 := (H5.out.1.cells i j hin (by omega)).1
                          have q2 := (H5.out.1.cells k k hlt (by omega)).1
                          have q3 := (H5.out.1.cells i k hin (by omega)).1
                          have q4 := (H5.out.1.cells k j hlt (by omega)).1
                          have q5 := (H5.out.1.cells i j hin (by omega)).2
                          have m1 : midM f1 f2 k i (j + 1) i j = f1 i j := by unfold midM; rw [if_neg (by omega)]
                          have m2 : midM f1 f2 k i (j + 1) k k = f1 k k := by unfold midM; rw [if_neg (by omega)]
                          have m3 : midM f1 f2 k i (j + 1) i k = f1 i k := by unfold midM; rw [if_neg (by omega)]
                          have m4 : midM f1 f2 k i (j + 1) k j = f1 k j := by unfold midM; rw [if_neg (by omega)]
                          rw [m1] at q1
                          rw [m2] at q2
                          rw [m3] at q3
                          rw [m4] at q4
                          have hv := HF.out.2.2.2.1 i j hik hjk
                          have hvb := HF.out.2.2.2.2.2.2.2.2 i j hin (by omega)
                          have hfa := HF.out.1 i j hin (by omega)
                          have hfb := HF.out.1 k k hlt (by omega)
                          have hfc := HF.out.1 i k hin (by omega)
                          have hfd := HF.out.1 k j hlt (by omega)
                          have HS := Lib.hid (And.intro (H5.out.1.set hin (show j ≤ n by omega) (f2 i j)) (H5.out.2.setCell (p := ⟨R' i, j, none⟩) (HC.out.2.1 i hin) (.int .i64 (f2 i j))))
                          have hpr : ∀ x y : Int, -100000000 ≤ x ∧ x ≤ 100000000 → -100000000 ≤ y ∧ y ≤ 100000000 → -10000000000000000 ≤ x * y ∧ x * y ≤ 10000000000000000 := by
                            intro x y hx hy
                            have h1 := Int.natAbs_mul x y
                            have h2 : x.natAbs * y.natAbs ≤ 100000000 * 100000000 := Nat.mul_le_mul (by omega) (by omega)
                            omega
                          have hab := hpr _ _ hfa hfb
                          have hcd := hpr _ _ hfc hfd
                          obtain ⟨v, hve⟩ : ∃ v, v = f2 i j := ⟨_, rfl⟩
                          have HW := Lib.hid hve
                          rw [← hve] at hv hvb HS
                          clear hve m1 m2 m3 m4 hpr
                          generalize f1 i j = xa at *
                          generalize f1 k k = xb at *
                          generalize f1 i k = xc at *
                          generalize f1 k j = xd at *
                          obtain ⟨ab, habe⟩ : ∃ ab, ab = xa * xb := ⟨_, rfl⟩
                          obtain ⟨cd, hcde⟩ : ∃ cd, cd = xc * xd := ⟨_, rfl⟩
                          obtain ⟨df, hdf⟩ : ∃ df, df = ab - cd := ⟨_, rfl⟩
                          rw [← habe, ← hcde, ← hdf] at hv
                          rw [← habe] at hab
                          rw [← hcde] at hcd
                          have e1 : IntKind.i64.wrap (xa * xb) = ab := by rw [← habe]; exact IntWalk.i64_in _ (by omega)
                          have e2 : IntKind.i64.wrap (xc * xd) = cd := by rw [← hcde]; exact IntWalk.i64_in _ (by omega)
                          have e3 : IntKind.i64.wrap (ab - cd) = df := by rw [← hdf]; exact IntWalk.i64_in _ (by omega)
                          have e4 : IntKind.i64.wrap (df.tdiv l) = v := by rw [← hv]; exact IntWalk.i64_in _ (by omega)
                          have e5 : (l == 0) = false := by rw [beq_eq_false_iff_ne]; exact hl0
                          clear habe hcde hdf
                          have l6 : (j : Int) < ((n + 1 : Nat) : Int) := by omega
                          clear hv hab hcd
                          go_wp2_with fail
                          refine wp_region_drew_tail 39 (by kernel_rfl) (by kernel_rfl) ?_
                          simp only [List.take_succ_cons, List.take_zero, List.drop_succ_cons, List.drop_zero]
                          repeat (go_big_quiet_step (fail))
                          refine wpQuiet_nil ?_
                          rintro _ ⟨nq, rfl⟩
                          go_wp2_with fail
                          go_roundw
                          case rel =>
                            refine ⟨j, by omega, by go_num, (HS.out.1.congr (fun a b ha hb => ?_)).drewN nq, below_drewN HS.out.2 nq⟩
                            unfold upd
                            by_cases e : a = i ∧ b = j
                            · rw [if_pos e]
                              unfold midM
                              rw [if_pos (by omega), e.1, e.2, HW.out]
                            · rw [if_neg e]
                              unfold midM
                              by_cases e2 : (a < i ∧ a ≠ k) ∨ (a = i ∧ j + 1 ≤ b ∧ b ≠ k)
                              · rw [if_pos e2, if_pos (by omega)]
                              · rw [if_neg e2, if_neg (by omega)]
                          case measure => simp [intOf]
                · obtain rfl : i = n := by omega
                  have HN := Lib.hid (And.intro (H4.out.1.congr (f' := f2) (fun a b ha hb => by
                    unfold midM
                    by_cases e : a = k
                    · rw [if_neg (by omega), e, HF.out.2.1]
                    · rw [if_pos (.inl ⟨ha, e⟩)])) H4.out.2)
                  have r1 := (HN.out.1.rows k hlt).1
                  have q1 := (HN.out.1.cells k k hlt (by omega)).1
                  rw [HF.out.2.1] at q1
                  obtain ⟨l', hl'⟩ : ∃ l', l' = f1 k k := ⟨_, rfl⟩
                  rw [← hl'] at q1
                  have HL := Lib.hid hl'
                  clear hl'
                  have l4 : (k : Int) < ((i + 1 : Nat) : Int) := by omega
                  go_wp2_with fail
                  go_roundg (i + 1 - (k + 1))
                  case measure => omega
                  case rel => exact ⟨k + 1, R', C', f2, l', by omega, rfl, rfl, by go_num, rfl, by rw [HL.out]; exact HF.out.2.2.2.2.1, HN.out.1, HC.out.2.1, HN.out.2⟩
        · obtain rfl : p = n := by omega
          have HF : Hid (slvTo f p p = none) := Lib.hid (by
            have h1 : slvTo f p (k + 1) = none := by rw [slvTo, HR.out.1]; simp only; rw [if_pos (piv_miss (by omega) HP.out)]
            have h2 := slvTo_none h1 (p - (k + 1))
            rwa [show k + 1 + (p - (k + 1)) = p from by omega] at h2)
          go_wp2_with fail
          go_ret2
          exact .inl ⟨HF.out, rfl, HR.out.2.2.2.1⟩
    · obtain rfl : n = k := by omega
      clear hgh
      obtain ⟨wq, rfl⟩ : ∃ wq : World, wq = wr := ⟨_, rfl⟩
      have hwq := HR.out.2.2.2.1.size
      go_wp2_with fail
      go_loopw [2, 148] (fun ov iv wx => ∃ (i : Nat) (D : Option Addr) (c : Nat), i ≤ n ∧ iv = .int .i64 i ∧ ov = .slice D i c ∧ wx.ownsRow wq.heap.size 3 1 (.slice D i c) i ((List.range i).map fun i => .int .i64 (h i n)) ∧ Below wq.heap.size wq wx) (fun _ iv _ => n - (intOf iv).toNat)
      case atStart => exact ⟨0, none, 0, Nat.zero_le _, rfl, rfl, World.ownsRow_nil _ _ _ _, Below.refl _ _⟩
      case round =>
        obtain ⟨i, D, c, hi, rfl, rfl, hown, hb⟩ := hrel
        obtain ⟨wo, rfl⟩ : ∃ wo : World, wo = wr := ⟨_, rfl⟩
        have HO := Lib.hid (And.intro hown hb)
        have hwo := hb.size
        clear hown hb
        by_cases hin : i < n
        · have r1 := (HO.out.2.cell (lt_of_cell (HR.out.2.1.rows i hin).1)).trans (HR.out.2.1.rows i hin).1
          have q1 := (HO.out.2.cell (lt_of_cell (HR.out.2.1.cells i n hin (Nat.le_refl _)).1)).trans (HR.out.2.1.cells i n hin (Nat.le_refl _)).1
          have hnew : ((List.range (i + 1)).map fun i => Value.int .i64 (h i n)) = ((List.range i).map fun i => Value.int .i64 (h i n)) ++ [.int .i64 (h i n)] := by rw [List.range_succ, List.map_append]; rfl
          have HN := Lib.hid hnew
          have l1 : (i : Int) < (n : Int) := by omega
          have l2 : (n : Int) < ((n + 1 : Nat) : Int) := by omega
          clear hnew
          go_wp2_with (at_builtin; refine app1 sty_int rfl _ _ rfl wq.heap.size D i c _ #[.int .i64 (h i n)] rfl (by simp [Value.oneCell']) rfl HO.out.1 rfl (by omega) hwo ?_)
          intro A4 k4 w4 hown4 _ hbl4 hk41 hk42
          have H4 : Hid (w4.ownsRow wq.heap.size 3 1 (.slice A4 (i + 1) k4) (i + 1) ((List.range (i + 1)).map fun i => Value.int .i64 (h i n)) ∧ Below wq.heap.size wq w4) := Lib.hid ⟨by rw [HN.out]; exact hown4, HO.out.2.trans hbl4⟩
          clear hown4 hbl4
          go_wp2_with fail
          go_roundw
          case rel => exact ⟨i + 1, A4, k4, by omega, by go_num, rfl, H4.out.1, H4.out.2⟩
          case measure => simp [intOf]; omega
        · obtain rfl : n = i := by omega
          go_wp2_with fail
          go_ret2
          exact .inr ⟨h, l, D, c, HR.out.1, rfl, own_mono HO.out.1 (by omega), HR.out.2.2.2.1.trans (HO.out.2.mono (by omega))⟩

/- make([]int, n) in this seat's program. -/
theorem info_int0 : (Try.prog.info? 3).map (fun i => (i.zero, i.size, i.bytes)) = some (some (.int .i64 0), 1, 8) := by kernel_rfl
/-- make([]int, n). -/
theorem make_ints (n : Nat) (hn : n ≤ 1000000) (w : World) : (Instr.makeSlice 22 (.int .i64 n) (.int .i64 n)).run Try.prog w = .ok (.slice (some ⟨w.heap.size, 0, none⟩) n n) (w.alloc (.cells (arr (List.replicate n 0)) 3)) := by
  obtain ⟨i0, hi, hz0, hz1, hz2⟩ := info_parts info_int0
  have hr := run_make (P := Try.prog) w 22 3 i0 (.int .i64 0) Try.underlying22 hi hz0 .i64 .i64 n n (by omega) (by omega) (by rw [hz2]; omega) (by omega)
  simp only [Int.toNat_natCast, hz1] at hr
  rw [hr, arr_zeros]


/- What players pay in an order: plain Lean. -/

/-- What one more player pays, and the set with that player. -/
def joinStep (c : List Int) (p : Nat × List Int) (i : Nat) : Nat × List Int := (p.1 ||| 2 ^ i, p.2.set i (c.getD (p.1 ||| 2 ^ i) 0 - c.getD p.1 0))
/-- What the players pay in an order. -/
def joinL (c : List Int) (os : List Nat) : List Int := (os.foldl (joinStep c) (0, List.replicate os.length 0)).2
def joinP (c : List Int) (n : Nat) (os : List Nat) : Nat × List Int := os.foldl (joinStep c) (0, List.replicate n 0)
theorem joinP_succ (c : List Int) (n : Nat) (os : List Nat) (k x : Nat) (h : os[k]? = some x) : joinP c n (os.take (k + 1)) = joinStep c (joinP c n (os.take k)) x := by
  unfold joinP
  rw [List.take_add_one, h]
  simp [List.foldl_append]
theorem joinP_bd (c : List Int) (n : Nat) (os : List Nat) (h : ∀ x ∈ os, x < n) : (joinP c n os).1 < 2 ^ n ∧ (joinP c n os).2.length = n := by
  unfold joinP
  suffices ∀ p : Nat × List Int, p.1 < 2 ^ n → p.2.length = n → (os.foldl (joinStep c) p).1 < 2 ^ n ∧ (os.foldl (joinStep c) p).2.length = n from this _ (by simp; exact Nat.pos_of_neZero _) (by simp)
  induction os with
  | nil => intro p h1 h2; exact ⟨h1, h2⟩
  | cons x os ih =>
    intro p h1 h2
    exact ih (fun y hy => h y (List.mem_cons_of_mem _ hy)) _ (or_pow_lt h1 (h x (List.mem_cons_self ..))) (by simp [joinStep, h2])


/- Contract: join of package games. -/

set_option maxHeartbeats 800000 in
theorem join_any (ad ac : Addr) (N cap n cap' : Nat) (c : List Int) (os : List Nat) (w : World) (hn : n ≤ 4) (hN : N = 2 ^ n) (hl : c.length = N) (hol : os.length = n)
    (hc : ∀ i x, c[i]? = some x → w.cell? (ac.add i) = some (.int .i64 x)) (ho : ∀ i x, os[i]? = some x → w.cell? (ad.add i) = some (.int .i64 (x : Nat)))
    (hos : ∀ x ∈ os, x < n) (hcb : ∀ x ∈ c, 0 ≤ x ∧ x ≤ 1000) :
    Calls Try.prog 60 #[.slice (some ac) N cap, .slice (some ad) n cap'] w fun e w' => e = .returned (.slice (some ⟨w.heap.size, 0, none⟩) n n) ∧ Blk w' w.heap.size 3 (arr (joinL c os)) ∧ Below w.heap.size w w' := by
  have hmk := make_ints n (by omega)
  have HN := Lib.hid hN
  have HL := Lib.hid hl
  have HOL := Lib.hid hol
  have HC := Lib.hid hc
  have HO := Lib.hid ho
  have HOS := Lib.hid hos
  have HCB := Lib.hid hcb
  clear hN hl hol hc ho hos hcb
  go_enter Try.func60, Try.ntmps60
  go_wp2
  go_loopw [6, 14] (fun s i wr => ∃ k set : Nat, k ≤ n ∧ i = .int .i64 k ∧ s = .int .i64 set ∧ set = (joinP c n (os.take k)).1 ∧ Blk wr w.heap.size 3 (arr (joinP c n (os.take k)).2) ∧ Below w.heap.size w wr) (fun _ i _ => n - (intOf i).toNat)
  case atStart => exact ⟨0, 0, Nat.zero_le _, rfl, rfl, rfl, Blk.new _ _ _ rfl, (Below.refl _ _).alloc (Nat.le_refl _) _⟩
  case round =>
    obtain ⟨k, set, h1, rfl, rfl, hset, hB, hb⟩ := hrel
    have HSET := Lib.hid hset
    have HB := Lib.hid hB
    have HBL := Lib.hid hb
    clear hset hB hb
    by_cases hlt : k < n
    · obtain ⟨x, hx⟩ : ∃ x, os[k]? = some x := ⟨_, List.getElem?_eq_getElem (by rw [HOL.out]; exact hlt)⟩
      have hxn : x < n := HOS.out x (List.mem_of_getElem? hx)
      have bd := joinP_bd c n (os.take k) (fun y hy => HOS.out y (List.mem_of_mem_take hy))
      rw [← HSET.out] at bd
      have hlt2 : set ||| 2 ^ x < 2 ^ n := or_pow_lt bd.1 hxn
      have hp : 2 ^ n ≤ 16 := by have := Nat.pow_le_pow_right (show 0 < 2 by omega) hn; simpa using this
      obtain ⟨s', hs'⟩ : ∃ s' : Nat, s' = set ||| 2 ^ x := ⟨_, rfl⟩
      have e1 := or_pow set x (by omega) (by omega)
      have e2 := or_pow' set x (by omega) (by omega)
      rw [← hs'] at e1 e2 hlt2
      obtain ⟨y1, hy1⟩ : ∃ y, c[s']? = some y := ⟨_, List.getElem?_eq_getElem (by rw [HL.out, HN.out]; exact hlt2)⟩
      obtain ⟨y0, hy0⟩ : ∃ y, c[set]? = some y := ⟨_, List.getElem?_eq_getElem (by rw [HL.out, HN.out]; exact bd.1)⟩
      have b1 := HCB.out y1 (List.mem_of_getElem? hy1)
      have b0 := HCB.out y0 (List.mem_of_getElem? hy0)
      have c1 := (HBL.out.cell (lt_of_cell (HC.out _ _ hy1))).trans (HC.out _ _ hy1)
      have c0 := (HBL.out.cell (lt_of_cell (HC.out _ _ hy0))).trans (HC.out _ _ hy0)
      have c2 := (HBL.out.cell (lt_of_cell (HO.out _ _ hx))).trans (HO.out _ _ hx)
      have hlN : s' < N := by rw [HN.out]; exact hlt2
      have hl0 : set < N := by rw [HN.out]; exact bd.1
      obtain ⟨z, hz⟩ : ∃ z, (joinP c n (os.take k)).2[x]? = some z := ⟨_, List.getElem?_eq_getElem (by rw [bd.2]; exact hxn)⟩
      have c3 : wr.cell? ⟨w.heap.size, x, none⟩ = some (.int .i64 z) := by rw [HB.out.cell, arr_get, hz]; rfl
      have f3 : wr.frozen? ⟨w.heap.size, x, none⟩ = false := HB.out.frozen x
      have HNEW : Hid (joinP c n (os.take (k + 1)) = (s', (joinP c n (os.take k)).2.set x (y1 - y0))) := Lib.hid (by
        rw [joinP_succ c n os k x hx, joinStep, ← HSET.out, ← hs', List.getD_eq_getElem?_getD, List.getD_eq_getElem?_getD, hy1, hy0]; rfl)
      clear hx hs' hy1 hy0 hz bd hlt2 hp
      go_wp2
      go_region
      go_wp2
      go_roundw
      case rel =>
        refine ⟨k + 1, s', by omega, by go_num, rfl, by rw [HNEW.out], ?_, HBL.out.drew.setCell (Nat.le_refl _) _⟩
        rw [HNEW.out, ← arr_set]
        exact Blk.set_ (w := wr.drew) HB.out x _
      case measure => simp [intOf]; omega
    · go_wp2
      go_ret
      refine ⟨rfl, ?_, HBL.out⟩
      have h := HB.out
      rwa [List.take_of_length_le (by rw [HOL.out]; omega), show joinP c n os = os.foldl (joinStep c) (0, List.replicate os.length 0) from by rw [joinP, HOL.out]] at h

/- The orders of players and the sums over them: plain Lean. -/

/-- sums with the first k numbers of js added. -/
def addUp (sums js : List Int) : Nat → List Int
  | 0 => sums
  | k + 1 => (addUp sums js k).set k ((addUp sums js k).getD k 0 + js.getD k 0)
theorem addUp_length (sums js : List Int) (k : Nat) : (addUp sums js k).length = sums.length := by
  induction k with
  | zero => rfl
  | succ k ih => simp [addUp, ih]
theorem addUp_get (sums js : List Int) (k i : Nat) (hi : i < sums.length) : (addUp sums js k).getD i 0 = if i < k then sums.getD i 0 + js.getD i 0 else sums.getD i 0 := by
  induction k with
  | zero => simp [addUp]
  | succ k ih =>
    have hl := addUp_length sums js k
    simp only [addUp, List.getD_eq_getElem?_getD, List.getElem?_set] at ih ⊢
    by_cases h : k = i
    · subst h
      rw [if_pos rfl, if_pos (by omega), if_pos (by omega)]
      simp only [Option.getD_some]
      rw [ih, if_neg (by omega)]
    · rw [if_neg h, ih]
      split <;> split <;> first | rfl | omega

/-- All orders of n players that begin with pre, m being left to come. -/
def ext (n : Nat) : Nat → List Nat → List (List Nat)
  | 0, pre => [pre]
  | m + 1, pre => (List.range n).flatMap fun i => if i ∈ pre then [] else ext n m (pre ++ [i])
/-- The part of them whose next player is below i. -/
def extTo (n m : Nat) (pre : List Nat) (i : Nat) : List (List Nat) := (List.range i).flatMap fun i => if i ∈ pre then [] else ext n m (pre ++ [i])
theorem ext_eq (n m : Nat) (pre : List Nat) : ext n (m + 1) pre = extTo n m pre n := rfl
theorem extTo_succ (n m : Nat) (pre : List Nat) (i : Nat) : extTo n m pre (i + 1) = extTo n m pre i ++ (if i ∈ pre then [] else ext n m (pre ++ [i])) := by
  simp [extTo, List.range_succ]
theorem extTo_le (n m : Nat) (pre : List Nat) (i j : Nat) (h : i ≤ j) : (extTo n m pre i).length ≤ (extTo n m pre j).length := by
  induction j with
  | zero => obtain rfl : i = 0 := by omega
            exact Nat.le_refl _
  | succ j ih =>
    rcases Nat.lt_or_ge j i with h1 | h1
    · obtain rfl : i = j + 1 := by omega
      exact Nat.le_refl _
    · rw [extTo_succ, List.length_append]; have := ih h1; omega

/-- The sums after all orders of a list have been added. -/
def addAll (c : List Int) (n : Nat) (sums : List Int) (L : List (List Nat)) : List Int := L.foldl (fun s os => addUp s (joinL c os) n) sums
theorem addAll_append (c : List Int) (n : Nat) (sums : List Int) (L M : List (List Nat)) : addAll c n sums (L ++ M) = addAll c n (addAll c n sums L) M := by
  simp [addAll, List.foldl_append]
theorem addAll_length (c : List Int) (n : Nat) (sums : List Int) (L : List (List Nat)) : (addAll c n sums L).length = sums.length := by
  induction L generalizing sums with
  | nil => rfl
  | cons os L ih => simp only [addAll, List.foldl_cons] at ih ⊢; rw [ih, addUp_length]

theorem costs_get {c : List Int} (hcb : ∀ x ∈ c, 0 ≤ x ∧ x ≤ 1000) (i : Nat) : 0 ≤ c.getD i 0 ∧ c.getD i 0 ≤ 1000 := by
  rw [List.getD_eq_getElem?_getD]
  cases h : c[i]? with
  | none => simp
  | some x => exact hcb x (List.mem_of_getElem? h)
theorem joinL_bd {c : List Int} (hcb : ∀ x ∈ c, 0 ≤ x ∧ x ≤ 1000) (os : List Nat) : ∀ y ∈ joinL c os, -1000 ≤ y ∧ y ≤ 1000 := by
  unfold joinL
  suffices ∀ p : Nat × List Int, (∀ y ∈ p.2, -1000 ≤ y ∧ y ≤ 1000) → ∀ y ∈ (os.foldl (joinStep c) p).2, -1000 ≤ y ∧ y ≤ 1000 from
    this _ (by intro y hy; rw [List.mem_replicate] at hy; omega)
  induction os with
  | nil => intro p h; exact h
  | cons x os ih =>
    intro p h
    refine ih _ fun y hy => ?_
    rcases List.mem_or_eq_of_mem_set hy with hy | rfl
    · exact h y hy
    · have h1 := costs_get hcb (p.1 ||| 2 ^ x); have h2 := costs_get hcb p.1; omega
theorem getD_bd {l : List Int} {m : Int} (h : ∀ y ∈ l, -m ≤ y ∧ y ≤ m) (hm : 0 ≤ m) (i : Nat) : -m ≤ l.getD i 0 ∧ l.getD i 0 ≤ m := by
  rw [List.getD_eq_getElem?_getD]
  cases hh : l[i]? with
  | none => simp; omega
  | some x => exact h x (List.mem_of_getElem? hh)
theorem addUp_bd {sums js : List Int} {m : Int} (hs : ∀ y ∈ sums, -m ≤ y ∧ y ≤ m) (hj : ∀ y ∈ js, -1000 ≤ y ∧ y ≤ 1000) (hm : 0 ≤ m) (k : Nat) : ∀ y ∈ addUp sums js k, -(m + 1000) ≤ y ∧ y ≤ m + 1000 := by
  intro y hy
  obtain ⟨i, hi, rfl⟩ := List.getElem_of_mem hy
  rw [addUp_length] at hi
  have h := addUp_get sums js k i hi
  rw [List.getD_eq_getElem?_getD, List.getElem?_eq_getElem (by rw [addUp_length]; exact hi)] at h
  simp only [Option.getD_some] at h
  rw [h]
  have h1 := getD_bd hs hm i
  have h2 := getD_bd hj (by omega) i
  split <;> omega

/- Contract: the function that games.Shapley calls for each order. -/

set_option maxHeartbeats 800000 in
theorem shapley1_any (ad ac : Addr) (N cap n cap' Bc Bk Bs S : Nat) (c : List Int) (os : List Nat) (cnt : Int) (sums : List Int) (w : World)
    (hn : n ≤ 4) (hN : N = 2 ^ n) (hl : c.length = N) (hol : os.length = n) (hsl : sums.length = n)
    (hc : ∀ i x, c[i]? = some x → w.cell? (ac.add i) = some (.int .i64 x)) (ho : ∀ i x, os[i]? = some x → w.cell? (ad.add i) = some (.int .i64 (x : Nat)))
    (hos : ∀ x ∈ os, x < n) (hcb : ∀ x ∈ c, 0 ≤ x ∧ x ≤ 1000) (hcnt : 0 ≤ cnt ∧ cnt ≤ 1000) (hsb : ∀ y ∈ sums, -(1000 * cnt) ≤ y ∧ y ≤ 1000 * cnt)
    (bc : Blk w Bc 3 #[.int .i64 cnt]) (bk : Blk w Bk 69 #[.slice (some ac) N cap]) (bs : Blk w Bs 22 #[.slice (some ⟨S, 0, none⟩) n n]) (bS : Blk w S 3 (arr sums))
    (n1 : ac.block ≠ Bc) (n2 : ad.block ≠ Bc) (n3 : Bk ≠ Bc) (n4 : Bs ≠ Bc) (n5 : S ≠ Bc) (n6 : Bs ≠ S) :
    Calls Try.prog 59 #[.slice (some ad) n cap', .pointer (some ⟨Bc, 0, none⟩), .pointer (some ⟨Bk, 0, none⟩), .pointer (some ⟨Bs, 0, none⟩)] w fun e w' =>
      e = .returned (.tuple #[]) ∧ Blk w' Bc 3 #[.int .i64 (cnt + 1)] ∧ Blk w' S 3 (arr (addUp sums (joinL c os) n)) ∧ Kept w.heap.size [Bc, S] w w' := by
  obtain ⟨k0, k1⟩ := bk.at1
  obtain ⟨q0, q1⟩ := bc.at1
  have hbc := bc.lt
  have W1 : Kept w.heap.size [Bc, S] w (w.setCell ⟨Bc, 0, none⟩ (.int .i64 (cnt + 1))) := (Kept.refl _ _ _).setCell (.inl (by simp)) _
  have bk1 : Blk (w.setCell ⟨Bc, 0, none⟩ (.int .i64 (cnt + 1))) Bk 69 #[.slice (some ac) N cap] := bk.far n3 _
  have bs1 : Blk (w.setCell ⟨Bc, 0, none⟩ (.int .i64 (cnt + 1))) Bs 22 #[.slice (some ⟨S, 0, none⟩) n n] := bs.far n4 _
  have bS1 : Blk (w.setCell ⟨Bc, 0, none⟩ (.int .i64 (cnt + 1))) S 3 (arr sums) := bS.far n5 _
  have bc1 : Blk (w.setCell ⟨Bc, 0, none⟩ (.int .i64 (cnt + 1))) Bc 3 #[.int .i64 (cnt + 1)] := bc.set_ 0 _
  have cell1 : ∀ (p : Addr) (v : Value), p.block ≠ Bc → w.cell? p = some v → (w.setCell ⟨Bc, 0, none⟩ (.int .i64 (cnt + 1))).cell? p = some v := fun p v hp hv => (World.cell?_of_block (w := w) (Below.heap_setCell w ⟨Bc, 0, none⟩ _ p.block hp)).trans hv
  have hc1 : ∀ i x, c[i]? = some x → (w.setCell ⟨Bc, 0, none⟩ (.int .i64 (cnt + 1))).cell? (ac.add i) = some (.int .i64 x) := fun i x hx => cell1 _ _ (by rw [add_block]; exact n1) (hc i x hx)
  have ho1 : ∀ i x, os[i]? = some x → (w.setCell ⟨Bc, 0, none⟩ (.int .i64 (cnt + 1))).cell? (ad.add i) = some (.int .i64 (x : Nat)) := fun i x hx => cell1 _ _ (by rw [add_block]; exact n2) (ho i x hx)
  have hjb := joinL_bd hcb os
  have hz : (w.setCell ⟨Bc, 0, none⟩ (.int .i64 (cnt + 1))).heap.size = w.heap.size := by simp [World.setCell]
  obtain ⟨k2, k3⟩ := bk1.at1
  have HC := Lib.hid hc1
  have HO := Lib.hid ho1
  have HJB := Lib.hid hjb
  have HSB := Lib.hid hsb
  have HZ := Lib.hid hz
  have HSL := Lib.hid hsl
  have HB := Lib.hid (And.intro bk1 (And.intro bs1 (And.intro bS1 (And.intro bc1 W1))))
  have HX := Lib.hid (And.intro hN (And.intro hl (And.intro hol (And.intro hos hcb))))
  clear hc ho hc1 ho1 hjb hsb hz bk bs bS bc bk1 bs1 bS1 bc1 W1 cell1 k0 k1 hN hl hol hos hcb hsl
  go_enter Try.func59, Try.ntmps59
  go_wp2_with fail
  refine (join_any ad ac N cap n cap' c os _ hn HX.out.1 HX.out.2.1 HX.out.2.2.1 HC.out HO.out HX.out.2.2.2.1 HX.out.2.2.2.2).mono ?_
  rintro e w2 ⟨rfl, hJ, hb⟩
  rw [HZ.out] at hb hJ ⊢
  obtain ⟨bk1, bs1, bS1, bc1, W1⟩ := HB.out
  have W2 : Kept w.heap.size [Bc, S] w w2 := W1.trans (Kept.of_below hb _)
  have bs2 := bs1.below hb (by have := bs1.lt; rw [HZ.out] at this; exact this)
  have bS2 := bS1.below hb (by have := bS1.lt; rw [HZ.out] at this; exact this)
  have bc2 := bc1.below hb hbc
  have hS : S < w.heap.size := by have := bS1.lt; rw [HZ.out] at this; exact this
  have hBs : Bs < w.heap.size := by have := bs1.lt; rw [HZ.out] at this; exact this
  have H2 := Lib.hid (And.intro hJ (And.intro W2 (And.intro bs2 (And.intro bS2 bc2))))
  clear hJ hb W2 bs2 bS2 bc2 bk1 bs1 bS1 bc1 W1
  go_wp2
  go_loopw [13] (fun i wr => ∃ k : Nat, k ≤ n ∧ i = .int .i64 k ∧ Blk wr S 3 (arr (addUp sums (joinL c os) k)) ∧ Blk wr Bc 3 #[.int .i64 (cnt + 1)] ∧ Blk wr Bs 22 #[.slice (some ⟨S, 0, none⟩) n n] ∧ Blk wr w.heap.size 3 (arr (joinL c os)) ∧ Kept w.heap.size [Bc, S] w wr) (fun i _ => n - (intOf i).toNat)
  case atStart => exact ⟨0, Nat.zero_le _, rfl, H2.out.2.2.2.1, H2.out.2.2.2.2, H2.out.2.2.1, H2.out.1, H2.out.2.1⟩
  case round =>
    obtain ⟨k, h1, rfl, bS, bc, bs, bJ, hK⟩ := hrel
    by_cases hlt : k < n
    · have hjl : k < (joinL c os).length := by
        have := (joinP_bd c n os HX.out.2.2.2.1).2
        unfold joinP at this; rw [show joinL c os = (os.foldl (joinStep c) (0, List.replicate n 0)).2 from by rw [joinL, HX.out.2.2.1]]; omega
      have hul : k < (addUp sums (joinL c os) k).length := by rw [addUp_length, HSL.out]; exact hlt
      obtain ⟨x, hx⟩ : ∃ x, (joinL c os)[k]? = some x := ⟨_, List.getElem?_eq_getElem hjl⟩
      obtain ⟨z, hz⟩ : ∃ x, (addUp sums (joinL c os) k)[k]? = some x := ⟨_, List.getElem?_eq_getElem hul⟩
      have hxb := HJB.out x (List.mem_of_getElem? hx)
      have hzb := addUp_bd HSB.out HJB.out (by omega) k z (List.mem_of_getElem? hz)
      have c1 : wr.cell? ⟨w.heap.size, k, none⟩ = some (.int .i64 x) := by rw [bJ.cell, arr_get, hx]; rfl
      have c2 : wr.cell? ⟨S, k, none⟩ = some (.int .i64 z) := by rw [bS.cell, arr_get, hz]; rfl
      have f2 : wr.frozen? ⟨S, k, none⟩ = false := bS.frozen k
      obtain ⟨s1, s2⟩ := bs.at1
      have HNEW : Hid (addUp sums (joinL c os) (k + 1) = (addUp sums (joinL c os) k).set k (z + x)) := Lib.hid (by
        rw [addUp, List.getD_eq_getElem?_getD, List.getD_eq_getElem?_getD, hz, hx]; rfl)
      have H3 := Lib.hid (And.intro bS (And.intro bc (And.intro bs (And.intro bJ hK))))
      clear bS bc bs bJ hK hx hz hjl hul
      go_wp2
      go_roundw
      case rel =>
        obtain ⟨bS, bc, bs, bJ, hK⟩ := H3.out
        refine ⟨k + 1, by omega, by go_num, ?_, bc.far (by exact fun e => n5 e.symm) _, bs.far n6 _, bJ.far (by show w.heap.size ≠ S; omega) _, hK.setCell (.inl (by simp)) _⟩
        rw [HNEW.out, ← arr_set]
        exact bS.set_ k _
      case measure => simp [intOf]; omega
    · obtain rfl : k = n := by omega
      have H3 := Lib.hid (And.intro bS (And.intro bc hK))
      clear bS bc bs bJ hK
      go_wp2
      go_end0
      exact ⟨rfl, H3.out.2.1, H3.out.1, H3.out.2.2⟩

/- Contract: the function that lists the orders of the players (orders of package games, its inner function), called with the function of games.Shapley. -/

/-- The places of what the orders' function works on. -/
structure GX where
  ac : Addr
  N : Nat
  cap : Nat
  n : Nat
  Bc : Nat
  Bk : Nat
  Bs : Nat
  S : Nat
  Bo : Nat
  Bcb : Nat
  Bfb : Nat
  Bg : Nat
  base : Nat
  c : List Int

structure GX.ok (X : GX) : Prop where
  hn : X.n ≤ 4
  hn0 : 1 ≤ X.n
  hN : X.N = 2 ^ X.n
  hl : X.c.length = X.N
  hcb : ∀ x ∈ X.c, 0 ≤ x ∧ x ≤ 1000
  a1 : X.ac.block ≠ X.Bc
  a2 : X.ac.block ≠ X.S
  a3 : X.ac.block ≠ X.Bo
  a4 : X.ac.block < X.base
  nd : ∀ x ∈ [X.Bs, X.Bk, X.Bcb, X.Bfb, X.Bg], x ∉ [X.Bo, X.Bc, X.S]
  n1 : X.Bo ≠ X.Bc
  n2 : X.Bo ≠ X.S
  n3 : X.S ≠ X.Bc
  lt : ∀ x ∈ [X.Bo, X.Bc, X.S, X.Bs, X.Bk, X.Bcb, X.Bfb, X.Bg], x < X.base

def nats (xs : List Nat) : List Value := xs.map fun (x : Nat) => Value.int .i64 (x : Int)

/-- The fixed parts of memory. -/
structure GX.fix (X : GX) (w : World) : Prop where
  size : X.base ≤ w.heap.size
  bcb : Blk w X.Bcb 69 #[.slice (some X.ac) X.N X.cap]
  bfb : Blk w X.Bfb 72 #[.func (.func 59) #[] #[.pointer (some ⟨X.Bc, 0, none⟩), .pointer (some ⟨X.Bk, 0, none⟩), .pointer (some ⟨X.Bs, 0, none⟩)]]
  bg : Blk w X.Bg 1 #[.func (.func 85) #[] #[.pointer (some ⟨X.Bo, 0, none⟩), .pointer (some ⟨X.Bcb, 0, none⟩), .pointer (some ⟨X.Bfb, 0, none⟩), .pointer (some ⟨X.Bg, 0, none⟩)]]
  bk : Blk w X.Bk 69 #[.slice (some X.ac) X.N X.cap]
  bs : Blk w X.Bs 22 #[.slice (some ⟨X.S, 0, none⟩) X.n X.n]
  hc : ∀ i x, X.c[i]? = some x → w.cell? (X.ac.add i) = some (.int .i64 x)

/-- The count and the sums. -/
structure GX.acc (X : GX) (cnt : Int) (sums : List Int) (w : World) : Prop where
  bc : Blk w X.Bc 3 #[.int .i64 cnt]
  bS : Blk w X.S 3 (arr sums)
  c0 : 0 ≤ cnt
  sl : sums.length = X.n
  sb : ∀ y ∈ sums, -(1000 * cnt) ≤ y ∧ y ≤ 1000 * cnt

/-- The order so far. -/
def GX.pre (X : GX) (pre : List Nat) (w : World) : Prop := ∃ A k, Blk w X.Bo 22 #[.slice A pre.length k] ∧ w.ownsRow X.base 3 1 (.slice A pre.length k) pre.length (nats pre) ∧ pre.length ≤ k ∧ k ≤ 9223372036854775807

theorem GX.fix.kept {X : GX} {w w' : World} (h : X.fix w) (hx : X.ok) (hk : Kept X.base [X.Bo, X.Bc, X.S] w w') : X.fix w' := by
  have k : ∀ (g : Nat) (t : TypeId) (cs : Array Value), Blk w g t cs → g ∈ [X.Bs, X.Bk, X.Bcb, X.Bfb, X.Bg] → Blk w' g t cs := by
    intro g t cs hb hm
    exact hb.kept hk (hx.lt g (by simp only [List.mem_cons] at hm ⊢; exact .inr (.inr (.inr hm)))) (hx.nd g hm)
  exact {
    size := Nat.le_trans h.size hk.size
    bcb := k _ _ _ h.bcb (by simp)
    bfb := k _ _ _ h.bfb (by simp)
    bg := k _ _ _ h.bg (by simp)
    bk := k _ _ _ h.bk (by simp)
    bs := k _ _ _ h.bs (by simp)
    hc := fun i x hi => (hk.cell (by rw [add_block]; exact hx.a4) (by rw [add_block]; simp [hx.a1, hx.a2, hx.a3])).trans (h.hc i x hi) }

/-- What the walk of the inner function leaves: the count and the sums moved on by the orders of a list, the order so far as it was. -/
structure GX.post (X : GX) (pre : List Nat) (cnt : Int) (sums : List Int) (L : List (List Nat)) (w w' : World) : Prop where
  acc : X.acc (cnt + L.length) (addAll X.c X.n sums L) w'
  pre : X.pre pre w'
  kept : Kept X.base [X.Bo, X.Bc, X.S] w w'

theorem own_pop {w : World} {base e n k : Nat} {A : Option Addr} {xs : List Value} {y : Value} (h : w.ownsRow base e 1 (.slice A (n + 1) k) (n + 1) (xs ++ [y])) : w.ownsRow base e 1 (.slice A n k) n xs := by
  obtain ⟨hl, h⟩ := h
  have hl' : xs.length = n := by simp at hl; omega
  refine ⟨by omega, ?_⟩
  rcases h with ⟨_, h⟩ | ⟨g, cap, cur, hv, h1, h2, h3, h4, h5, h6⟩
  · omega
  · refine .inr ⟨g, cap, cur, ?_, h1, h2, by omega, h4, h5, ?_⟩
    · injection hv with e1 e2 e3; rw [e1, e3]
    · have := congrArg (List.take n) h6
      rw [List.take_take, List.take_append_of_le_length (by omega), List.take_of_length_le (l := xs) (by omega)] at this
      rw [Nat.mul_one]
      rw [← this]
      congr 1
      omega
theorem nats_snoc (xs : List Nat) (x : Nat) : nats (xs ++ [x]) = nats xs ++ [Value.int .i64 (x : Int)] := by simp [nats]
theorem nats_one (xs : List Nat) : ∀ u ∈ nats xs, u.oneCell' = true := by
  intro u hu
  simp only [nats, List.mem_map] at hu
  obtain ⟨x, _, rfl⟩ := hu
  rfl
/-- An owned row lies apart from older blocks, so it stays behind what leaves it alone. -/
theorem own_kept {w w' : World} {base e size n : Nat} {v : Value} {xs : List Value} (h : w.ownsRow base e size v n xs) (hk : ∀ g, base ≤ g → g < w.heap.size → w'.heap[g]? = w.heap[g]?) : w'.ownsRow base e size v n xs := by
  obtain ⟨h1, h2⟩ := h
  refine ⟨h1, ?_⟩
  rcases h2 with h2 | ⟨g, cap, cur, hv, a1, a2, a3⟩
  · exact .inl h2
  · exact .inr ⟨g, cap, cur, hv, a1, (hk g a1 (lt_of_block a2)).trans a2, a3⟩
theorem own_setCell {w : World} {base e size n : Nat} {v : Value} {xs : List Value} (h : w.ownsRow base e size v n xs) {p : Addr} (hp : p.block < base) (u : Value) : (w.setCell p u).ownsRow base e size v n xs :=
  own_kept h fun g hg _ => Below.heap_setCell w p u g (by omega)

/- Contract: the inner function of orders, by induction on how many players are still to come. -/

theorem players_q (A : Option Addr) (n k cap m : Nat) (w : World) (h : n = 2 ∧ k = 1 ∨ n = 4 ∧ k = 2 ∨ n = 8 ∧ k = 3 ∨ n = 16 ∧ k = 4) :
    Calls Try.prog 57 #[.slice A n cap] (w.drewN m) fun e w'' => e = .returned (.int .i64 k) ∧ ∃ j, w'' = w.drewN j :=
  (players_any A n k cap _ h).mono fun _ _ hh => ⟨hh.1, m, hh.2.symm⟩

theorem GX.ok.np {X : GX} (hx : X.ok) : X.N = 2 ∧ X.n = 1 ∨ X.N = 4 ∧ X.n = 2 ∨ X.N = 8 ∧ X.n = 3 ∨ X.N = 16 ∧ X.n = 4 := by
  have h := hx.hN
  have h1 := hx.hn
  have h0 := hx.hn0
  generalize X.n = n at *
  generalize X.N = N at *
  subst h
  match n, h0, h1 with
  | 1, _, _ => simp
  | 2, _, _ => simp
  | 3, _, _ => simp
  | 4, _, _ => simp

theorem own_cells {w : World} {base e n g c : Nat} {xs : List Value} (h : w.ownsRow base e 1 (.slice (some ⟨g, 0, none⟩) n c) n xs) : ∀ j u, xs[j]? = some u → w.cell? ((⟨g, 0, none⟩ : Addr).add j) = some u := h.cells rfl

theorem nats_get {xs : List Nat} {i x : Nat} (h : xs[i]? = some x) : (nats xs)[i]? = some (Value.int .i64 (x : Int)) := by simp [nats, h]

set_option maxHeartbeats 800000 in
theorem grow_full (X : GX) (hx : X.ok) (pre : List Nat) (cnt : Int) (sums : List Int) (w : World) (hpl : pre.length = X.n) (hpn : ∀ x ∈ pre, x < X.n) (hf : X.fix w) (ha : X.acc cnt sums w) (hp : X.pre pre w) (hcnt : cnt ≤ 1000) :
    Calls Try.prog 85 #[.pointer (some ⟨X.Bo, 0, none⟩), .pointer (some ⟨X.Bcb, 0, none⟩), .pointer (some ⟨X.Bfb, 0, none⟩), .pointer (some ⟨X.Bg, 0, none⟩)] w fun e w' =>
      e = .returned (.tuple #[]) ∧ X.post pre cnt sums [pre] w w' := by
  obtain ⟨A, k, hbo, hown, hk1, hk2⟩ := hp
  rw [hpl] at hbo hown hk1
  obtain ⟨g, rfl, hg, hgw⟩ := own_some hown (by have := hx.hn0; omega)
  obtain ⟨o1, o2⟩ := hbo.at1
  obtain ⟨q1, q2⟩ := hf.bcb.at1
  obtain ⟨r1, r2⟩ := hf.bfb.at1
  have hn4 := hx.hn
  have hn0 := hx.hn0
  have HNP := Lib.hid hx.np
  have HH := Lib.hid (And.intro hx (And.intro hf (And.intro ha (And.intro hown hpn))))
  have HPL := Lib.hid hpl
  have HBO := Lib.hid hbo
  clear hx hf ha hown hpn hpl hbo
  go_enter Try.func85, Try.ntmps85
  go_wp2_with fail
  go_quiet ((go_at_call 57; exact players_q _ _ _ _ _ _ HNP.out))
  go_wp2_with fail
  obtain ⟨hx, hf, ha, hown, hpn⟩ := HH.out
  refine (shapley1_any ⟨g, 0, none⟩ X.ac X.N X.cap X.n k X.Bc X.Bk X.Bs X.S X.c pre cnt sums (w.drewN nq) hx.hn hx.hN hx.hl HPL.out ha.sl (fun i x hi => hf.hc i x hi) (fun i x hi => own_cells hown i _ (nats_get hi)) hpn hx.hcb ⟨ha.c0, hcnt⟩ ha.sb (ha.bc.drewN _) (hf.bk.drewN _) (hf.bs.drewN _) (ha.bS.drewN _) hx.a1 ?n2 ?n3 ?n4 hx.n3 ?n6).mono ?_
  case n2 => have := hx.lt X.Bc (by simp); show g ≠ X.Bc; omega
  case n3 => have := hx.nd X.Bk (by simp); simp at this; exact this.2.1
  case n4 => have := hx.nd X.Bs (by simp); simp at this; exact this.2.1
  case n6 => have := hx.nd X.Bs (by simp); simp at this; exact this.2.2
  rintro e w' ⟨rfl, h1, h2, h3⟩
  have HF := Lib.hid (And.intro h1 (And.intro h2 h3))
  clear h1 h2 h3 hx hf ha hown hpn
  go_wp2
  obtain ⟨hx, hf, ha, hown, hpn⟩ := HH.out
  obtain ⟨h1, h2, h3⟩ := HF.out
  refine bodyPost_ret (results_none rfl _ _ _) rfl ⟨rfl, ?_⟩
  have hk : Kept w.heap.size [X.Bc, X.S] w w' := ((Kept.refl _ _ w).drewN _).trans h3
  have hbo := hx.lt X.Bo (by simp)
  have hbc := hx.lt X.Bc (by simp)
  have hbS := hx.lt X.S (by simp)
  have hsz := hf.size
  exact {
    acc := {
      bc := by simpa using h1
      bS := h2
      c0 := by have := ha.c0; simp; omega
      sl := (addUp_length _ _ _).trans ha.sl
      sb := fun y hy => by
        have := addUp_bd ha.sb (joinL_bd hx.hcb pre) (by have := ha.c0; omega) X.n y hy
        simp only [List.length_singleton]; omega }
    pre := ⟨some ⟨g, 0, none⟩, k, by rw [HPL.out]; exact HBO.out.kept hk HBO.out.lt (by simp [hx.n1, hx.n2]), by
      rw [HPL.out]
      exact own_kept hown fun b h1 h2 => hk.block b h2 (by simp only [List.mem_cons, List.not_mem_nil, or_false]; omega), by rw [HPL.out]; exact hk1, hk2⟩
    kept := hk.mono hsz (by simp) }

/- Contract: the inner function of orders, whole. -/

theorem GX.fix.drewN {X : GX} {w : World} (h : X.fix w) (n : Nat) : X.fix (w.drewN n) := ⟨h.size, h.bcb, h.bfb, h.bg, h.bk, h.bs, h.hc⟩
theorem GX.acc.drewN {X : GX} {cnt : Int} {sums : List Int} {w : World} (h : X.acc cnt sums w) (n : Nat) : X.acc cnt sums (w.drewN n) := ⟨h.bc, h.bS, h.c0, h.sl, h.sb⟩
theorem GX.pre.drewN {X : GX} {pre : List Nat} {w : World} (h : X.pre pre w) (n : Nat) : X.pre pre (w.drewN n) := h

/-- The loop's relation. -/
structure GX.rel (X : GX) (pre : List Nat) (m : Nat) (cnt : Int) (sums : List Int) (w : World) (i : Nat) (wr : World) : Prop where
  acc : X.acc (cnt + (extTo X.n m pre i).length) (addAll X.c X.n sums (extTo X.n m pre i)) wr
  pre : X.pre pre wr
  kept : Kept X.base [X.Bo, X.Bc, X.S] w wr

theorem mem_nats (pre : List Nat) (i : Nat) : has (pre.map Int.ofNat) (i : Int) = decide (i ∈ pre) := by
  unfold has
  rw [decide_eq_decide, List.mem_map]
  constructor
  · rintro ⟨x, hx, h⟩
    obtain rfl : x = i := by have h2 : (x : Int) = (i : Int) := h; omega
    exact hx
  · intro h; exact ⟨i, h, rfl⟩
theorem nats_ints (pre : List Nat) : nats pre = (pre.map Int.ofNat).map (Value.int .i64) := by simp [nats]

set_option maxHeartbeats 1600000 in
theorem grow_any (X : GX) (hx : X.ok) (m : Nat) : ∀ (pre : List Nat) (cnt : Int) (sums : List Int) (w : World), pre.length + m = X.n → (∀ x ∈ pre, x < X.n) → X.fix w → X.acc cnt sums w → X.pre pre w → cnt + (ext X.n m pre).length ≤ 1000 →
    Calls Try.prog 85 #[.pointer (some ⟨X.Bo, 0, none⟩), .pointer (some ⟨X.Bcb, 0, none⟩), .pointer (some ⟨X.Bfb, 0, none⟩), .pointer (some ⟨X.Bg, 0, none⟩)] w fun e w' =>
      e = .returned (.tuple #[]) ∧ X.post pre cnt sums (ext X.n m pre) w w' := by
  induction m with
  | zero =>
    intro pre cnt sums w hpl hpn hf ha hp hcnt
    exact grow_full X hx pre cnt sums w (by omega) hpn hf ha hp (by simp [ext] at hcnt; omega)
  | succ m ih =>
    intro pre cnt sums w hpl hpn hf ha hp hcnt
    have IH := Lib.hid ih
    have hne : ((pre.length : Int) == (X.n : Int)) = false := by simp; omega
    obtain ⟨A, k, hbo, hown, hk1, hk2⟩ := hp
    obtain ⟨o1, o2⟩ := hbo.at1
    obtain ⟨q1, q2⟩ := hf.bcb.at1
    have hn4 := hx.hn
    have hn0 := hx.hn0
    have HNP := Lib.hid hx.np
    have HH := Lib.hid (And.intro hx (And.intro hf (And.intro ha (And.intro hown (And.intro hpn (And.intro hcnt hbo))))))
    have HPL := Lib.hid hpl
    clear hx hf ha hown hpn hpl hbo ih hcnt
    go_enter Try.func85, Try.ntmps85
    go_wp2_with fail
    go_quiet ((go_at_call 57; exact players_q _ _ _ _ _ _ HNP.out))
    go_wp2_with fail
    refine (players_any _ _ _ _ _ HNP.out).mono ?_
    rintro e w' ⟨rfl, rfl⟩
    go_wp2_with fail
    go_loopw [15] (fun iv wr => ∃ i : Nat, i ≤ X.n ∧ iv = .int .i64 i ∧ X.rel pre m cnt sums w i wr) (fun iv _ => X.n - (intOf iv).toNat)
    case atStart =>
      obtain ⟨hx, hf, ha, hown, hpn, hcnt, hbo⟩ := HH.out
      exact ⟨0, Nat.zero_le _, rfl, ⟨by simpa [extTo, addAll] using ha.drewN nq, ⟨A, k, hbo, hown, hk1, hk2⟩, (Kept.refl _ _ _).drewN _⟩⟩
    case round =>
      obtain ⟨i, hin, rfl, hR⟩ := hrel
      obtain ⟨hx, hf, ha, hown, hpn, hcnt, hbo⟩ := HH.out
      have HF := Lib.hid (hf.kept hx hR.kept)
      obtain ⟨A2, k2, hbo2, hown2, hk21, hk22⟩ := hR.pre
      obtain ⟨p1, p2⟩ := hbo2.at1
      have HR := Lib.hid hR
      have HO2 := Lib.hid (And.intro hown2 hbo2)
      clear hx hf ha hown hpn hcnt hbo hR hown2 hbo2
      by_cases hlt : i < X.n
      · by_cases hm : i ∈ pre
        · have HM := Lib.hid hm
          have hmem : has (pre.map Int.ofNat) (i : Int) = true := by rw [mem_nats]; simp [hm]
          clear hm
          go_wp2_with fail
          refine (contains_any A2 pre.length k2 (pre.map Int.ofNat) i _ (by simp) (by omega) (by unfold Ints; rw [← nats_ints]; exact At.of_own HO2.out.1)).mono ?_
          rintro e w' ⟨rfl, rfl⟩
          go_wp2
          go_roundw
          case rel =>
            have hR := HR.out
            exact ⟨i + 1, by omega, by go_num, ⟨by rw [extTo_succ, if_pos HM.out, List.append_nil]; exact hR.acc, hR.pre, hR.kept⟩⟩
          case measure => simp [intOf]; omega
        · have HM := Lib.hid hm
          have hmem : has (pre.map Int.ofNat) (i : Int) = false := by rw [mem_nats]; simp [hm]
          clear hm
          have hpl4 : pre.length ≤ 4 := by have := HPL.out; omega
          go_wp2_with fail
          refine (contains_any A2 pre.length k2 (pre.map Int.ofNat) i _ (by simp) (by omega) (by unfold Ints; rw [← nats_ints]; exact At.of_own HO2.out.1)).mono ?_
          rintro e w' ⟨rfl, rfl⟩
          have hbase := HF.out.size
          go_wp2_with (at_builtin; refine app1 sty_int rfl _ _ rfl X.base A2 pre.length k2 (nats pre) #[.int .i64 (i : Int)] rfl (by simp [Value.oneCell']) rfl HO2.out.1 rfl (by omega) hbase ?_)
          intro A3 k3 w3 hown3 _ hbl3 hk31 hk32
          have hx := HH.out.1
          have hbo3 : Blk w3 X.Bo 22 #[.slice A2 pre.length k2] := HO2.out.2.below hbl3 (hx.lt X.Bo (by simp))
          obtain ⟨s1, s2⟩ := hbo3.at1
          have hf3 : X.fix w3 := HF.out.kept hx (Kept.of_below hbl3 _)
          have hbo4 := hbo3.set_ 0 (.slice A3 (pre.length + 1) k3)
          have hlb := hx.lt X.Bo (by simp)
          have K4 : Kept X.base [X.Bo, X.Bc, X.S] w3 (w3.setCell ⟨X.Bo, 0, none⟩ (.slice A3 (pre.length + 1) k3)) := (Kept.refl _ _ _).setCell (.inl (by simp)) _
          have hf4 := hf3.kept hx K4
          obtain ⟨g1, g2⟩ := hf4.bg.at1
          have K0 : Kept X.base [X.Bo, X.Bc, X.S] w (w3.setCell ⟨X.Bo, 0, none⟩ (.slice A3 (pre.length + 1) k3)) := (HR.out.kept.trans (Kept.of_below hbl3 _)).trans K4
          have hacc : X.acc (cnt + (extTo X.n m pre i).length) (addAll X.c X.n sums (extTo X.n m pre i)) (w3.setCell ⟨X.Bo, 0, none⟩ (.slice A3 (pre.length + 1) k3)) := by
            have h := HR.out.acc
            exact ⟨(h.bc.below hbl3 (hx.lt X.Bc (by simp))).far (by exact fun e => hx.n1 e.symm) _, (h.bS.below hbl3 (hx.lt X.S (by simp))).far (by exact fun e => hx.n2 e.symm) _, h.c0, h.sl, h.sb⟩
          have hpre : X.pre (pre ++ [i]) (w3.setCell ⟨X.Bo, 0, none⟩ (.slice A3 (pre.length + 1) k3)) := by
            refine ⟨A3, k3, ?_, ?_, by simp; omega, hk32⟩
            · simpa using hbo4
            · rw [nats_snoc, List.length_append]
              exact own_setCell hown3 (by exact hlb) _
          have H4 := Lib.hid (And.intro hf4 (And.intro K0 (And.intro hacc hpre)))
          clear hown3 hbl3 hbo3 hf3 hbo4 K4 hf4 K0 hacc hpre hx hbase
          go_wp2_with fail
          obtain ⟨hf4, K0, hacc, hpre⟩ := H4.out
          have hle := extTo_le X.n m pre (i + 1) X.n (by omega)
          rw [extTo_succ, if_neg HM.out, List.length_append] at hle
          refine (IH.out (pre ++ [i]) _ _ _ (by simp; have := HPL.out; omega) (by
            intro x hxm
            rcases List.mem_append.1 hxm with h | h
            · exact HH.out.2.2.2.2.1 x h
            · simp at h; omega) hf4 hacc hpre (by have := HH.out.2.2.2.2.2.1; rw [ext_eq] at this; omega)).mono ?_
          rintro e w5 ⟨rfl, hpost⟩
          clear hf4 K0 hacc hpre hle
          obtain ⟨A6, k6, hbo6, hown6, hk61, hk62⟩ := hpost.pre
          rw [List.length_append, List.length_singleton] at hbo6 hown6 hk61
          rw [nats_snoc] at hown6
          obtain ⟨t1, t2⟩ := hbo6.at1
          have HP := Lib.hid hpost
          have HO6 := Lib.hid (And.intro (own_pop hown6) hbo6)
          clear hown6 hpost hbo6
          go_wp2
          go_roundw
          case rel =>
            have hx := HH.out.1
            have hpo := HP.out
            obtain ⟨hf4, K0, hacc, hpre⟩ := H4.out
            have K5 : Kept X.base [X.Bo, X.Bc, X.S] w5 (w5.setCell ⟨X.Bo, 0, none⟩ (.slice A6 pre.length k6)) := (Kept.refl _ _ _).setCell (.inl (by simp)) _
            have h := hpo.acc
            have e1 : cnt + (extTo X.n m pre (i + 1)).length = cnt + (extTo X.n m pre i).length + (ext X.n m (pre ++ [i])).length := by
              rw [extTo_succ, if_neg HM.out, List.length_append]; omega
            have e2 : addAll X.c X.n sums (extTo X.n m pre (i + 1)) = addAll X.c X.n (addAll X.c X.n sums (extTo X.n m pre i)) (ext X.n m (pre ++ [i])) := by
              rw [extTo_succ, if_neg HM.out, addAll_append]
            refine ⟨i + 1, by omega, by go_num, ⟨?_, ⟨A6, k6, ?_, ?_, by omega, hk62⟩, (K0.trans hpo.kept).trans K5⟩⟩
            · rw [e1, e2]
              exact ⟨h.bc.far (by exact fun e => hx.n1 e.symm) _, h.bS.far (by exact fun e => hx.n2 e.symm) _, h.c0, h.sl, h.sb⟩
            · exact HO6.out.2.set_ 0 _
            · exact own_setCell HO6.out.1 (by exact hx.lt X.Bo (by simp)) _
          case measure => simp [intOf]; omega
      · obtain rfl : i = X.n := by omega
        go_wp2
        go_end0
        have hR := HR.out
        exact ⟨rfl, ⟨by rw [ext_eq]; exact hR.acc, hR.pre, hR.kept⟩⟩

/- Contract: orders of package games, called with the function of games.Shapley. -/

set_option maxHeartbeats 800000 in
theorem orders_any (ac : Addr) (N cap n Bc Bk Bs S : Nat) (c : List Int) (sums : List Int) (w : World)
    (hn : n ≤ 4) (hn0 : 1 ≤ n) (hN : N = 2 ^ n) (hl : c.length = N) (hsl : sums.length = n) (hcb : ∀ x ∈ c, 0 ≤ x ∧ x ≤ 1000) (hsb : ∀ y ∈ sums, y = 0)
    (hL : (ext n n []).length ≤ 1000)
    (hc : ∀ i x, c[i]? = some x → w.cell? (ac.add i) = some (.int .i64 x)) (hac : ac.block < w.heap.size)
    (bc : Blk w Bc 3 #[.int .i64 0]) (bk : Blk w Bk 69 #[.slice (some ac) N cap]) (bs : Blk w Bs 22 #[.slice (some ⟨S, 0, none⟩) n n]) (bS : Blk w S 3 (arr sums))
    (n1 : ac.block ≠ Bc) (n2 : ac.block ≠ S) (n5 : S ≠ Bc) (m1 : Bs ≠ Bc) (m2 : Bs ≠ S) (m3 : Bk ≠ Bc) (m4 : Bk ≠ S) :
    Calls Try.prog 58 #[.slice (some ac) N cap, .func (.func 59) #[] #[.pointer (some ⟨Bc, 0, none⟩), .pointer (some ⟨Bk, 0, none⟩), .pointer (some ⟨Bs, 0, none⟩)]] w fun e w' =>
      e = .returned (.tuple #[]) ∧ Blk w' Bc 3 #[.int .i64 ((ext n n []).length : Nat)] ∧ Blk w' S 3 (arr (addAll c n sums (ext n n []))) ∧ (∀ y ∈ addAll c n sums (ext n n []), -1000000 ≤ y ∧ y ≤ 1000000) ∧ Kept w.heap.size [Bc, S] w w' := by
  obtain ⟨X, hX⟩ : ∃ X : GX, X = { ac := ac, N := N, cap := cap, n := n, Bc := Bc, Bk := Bk, Bs := Bs, S := S, Bo := w.heap.size + 1 + 1, Bcb := w.heap.size, Bfb := w.heap.size + 1, Bg := w.heap.size + 1 + 1 + 1, base := w.heap.size + 4, c := c } := ⟨_, rfl⟩
  have l1 := bc.lt
  have l2 := bk.lt
  have l3 := bs.lt
  have l4 := bS.lt
  have hx : X.ok := by
    subst hX
    exact ⟨hn, hn0, hN, hl, hcb, n1, n2, by show ac.block ≠ w.heap.size + 1 + 1; omega, by show ac.block < w.heap.size + 4; omega, by
      intro x hx
      simp only [List.mem_cons, List.not_mem_nil, or_false] at hx ⊢
      rcases hx with rfl | rfl | rfl | rfl | rfl <;> simp <;> omega, by show w.heap.size + 1 + 1 ≠ Bc; omega, by show w.heap.size + 1 + 1 ≠ S; omega, n5, by
      intro x hx
      simp only [List.mem_cons, List.not_mem_nil, or_false] at hx
      rcases hx with rfl | rfl | rfl | rfl | rfl | rfl | rfl | rfl <;> simp <;> omega⟩
  have HX := Lib.hid hX
  have H := Lib.hid (And.intro hx (And.intro hc (And.intro hac (And.intro bc (And.intro bk (And.intro bs (And.intro bS (And.intro hsl (And.intro hsb hL)))))))))
  clear hx hc bc bk bs bS hX hN hl hcb hsl hsb hL
  go_enter Try.func58, Try.ntmps58
  go_wp2_with fail
  have hX := HX.out
  obtain ⟨hx, hc, hac, bc, bk, bs, bS, hsl, hsb, hL⟩ := H.out
  subst hX
  have K4 : ∀ o1 o2 o3 o4, Below w.heap.size w ((((w.alloc o1).alloc o2).alloc o3).alloc o4) := fun o1 o2 o3 o4 =>
    ((((Below.refl _ _).alloc (by go_size) _).alloc (by go_size) _).alloc (by go_size) _).alloc (by go_size) _
  refine (grow_any _ hx n [] 0 sums _ (by simp) (by simp) ?fix ?acc ?pre (by show (0 : Int) + ((ext n n []).length : Nat) ≤ 1000; omega)).mono ?_
  case fix =>
    exact {
      size := by simp
      bcb := (((Blk.new _ _ _ rfl).alloc _).alloc _).alloc _
      bfb := ((Blk.new _ _ _ (by simp)).alloc _).alloc _
      bg := Blk.new _ _ _ (by simp)
      bk := bk.below (K4 _ _ _ _) l2
      bs := bs.below (K4 _ _ _ _) l3
      hc := fun i x hi => ((K4 _ _ _ _).cell (lt_of_cell (hc i x hi))).trans (hc i x hi) }
  case acc => exact ⟨bc.below (K4 _ _ _ _) l1, bS.below (K4 _ _ _ _) l4, by omega, hsl, fun y hy => by have := hsb y hy; omega⟩
  case pre => exact ⟨none, 0, (Blk.new _ _ _ (by simp)).alloc _, World.ownsRow_nil _ _ _ _, by simp, by omega⟩
  rintro e w' ⟨rfl, hp⟩
  have HP := Lib.hid (And.intro hp (K4 (.cells #[.slice (some ac) N cap] 69) (.cells #[.func (.func 59) #[] #[.pointer (some ⟨Bc, 0, none⟩), .pointer (some ⟨Bk, 0, none⟩), .pointer (some ⟨Bs, 0, none⟩)]] 72) (.cells #[.slice none 0 0] 22) (.cells #[.func (.func 85) #[] #[.pointer (some ⟨w.heap.size + 1 + 1, 0, none⟩), .pointer (some ⟨w.heap.size, 0, none⟩), .pointer (some ⟨w.heap.size + 1, 0, none⟩), .pointer (some ⟨w.heap.size + 1 + 1 + 1, 0, none⟩)]] 1)))
  clear hp hx hc hac bc bk bs bS hsl hsb hL
  go_wp2
  go_end0
  obtain ⟨hp, hb⟩ := HP.out
  obtain ⟨_, _, _, _, _, _, _, _, _, hL⟩ := H.out
  refine ⟨rfl, by simpa using hp.acc.bc, hp.acc.bS, fun y hy => by have h1 : -(1000 * (0 + ((ext n n []).length : Int))) ≤ y ∧ y ≤ 1000 * (0 + ((ext n n []).length : Int)) := hp.acc.sb y hy; omega, (Kept.of_below hb _).trans (hp.kept.mono (by simp) ?_)⟩
  intro x hx
  simp only [List.mem_cons, List.not_mem_nil, or_false] at hx ⊢
  rcases hx with rfl | rfl | rfl
  · exact .inr (by show w.heap.size ≤ w.heap.size + 1 + 1; omega)
  · exact .inl (.inl rfl)
  · exact .inl (.inr rfl)

/- Fractions in lowest terms are rational numbers: the plain law behind the walks over api.Frac. No program. -/

/-- A rational number as the program's fraction. -/
def fr (q : Rat) : Value := .agg #[.int .i64 q.num, .int .i64 (q.den : Int)]

theorem gcd_nat (a b : Int) : (Int.gcd a b : Int) = Nat.gcd a.natAbs b.natAbs := rfl
theorem gcd_step (a b : Int) : Int.gcd b (a.tmod b) = Int.gcd a b := by
  unfold Int.gcd
  rw [Int.natAbs_tmod, Nat.gcd_comm a.natAbs, ← Nat.gcd_rec b.natAbs a.natAbs |>.symm, Nat.gcd_comm]
theorem gcd_pos {a b : Int} (h : 0 < b) : 0 < (Int.gcd a b : Int) := by
  have := Int.gcd_pos_of_ne_zero_right a (show b ≠ 0 by omega); omega
theorem gcd_le {a b : Int} (h : 0 < b) : (Int.gcd a b : Int) ≤ b := by
  have h1 : Int.gcd a b ≤ b.natAbs := Nat.gcd_le_right _ (by omega)
  omega
theorem div_num {a b : Int} (h : 0 < b) : a.tdiv (Int.gcd a b) = (Rat.divInt a b).num := by
  rw [Rat.num_divInt, Int.gcd_comm b a, Int.sign_eq_one_of_pos h, Int.one_mul]
  exact Int.tdiv_eq_ediv_of_dvd (Int.gcd_dvd_left a b)
theorem div_den {a b : Int} (h : 0 < b) : b.tdiv (Int.gcd a b) = ((Rat.divInt a b).den : Int) := by
  rw [Rat.den_divInt, if_neg (by omega), Int.gcd_comm b a, Int.tdiv_eq_ediv_of_dvd (Int.gcd_dvd_right a b)]
  obtain ⟨n, rfl⟩ := Int.eq_ofNat_of_zero_le (Int.le_of_lt h)
  simp
theorem tdiv_bd {a g : Int} {m : Int} (h1 : -m ≤ a) (h2 : a ≤ m) : -m ≤ a.tdiv g ∧ a.tdiv g ≤ m := by
  have h3 : (a.tdiv g).natAbs ≤ a.natAbs := by rw [Int.natAbs_tdiv]; exact Nat.div_le_self _ _
  omega
theorem divInt_bd {a b : Int} (h : 0 < b) {m : Int} (h1 : -m ≤ a) (h2 : a ≤ m) : -m ≤ (Rat.divInt a b).num ∧ (Rat.divInt a b).num ≤ m := by
  rw [← div_num h]; exact tdiv_bd h1 h2
theorem divInt_den_le {a b : Int} (h : 0 < b) : ((Rat.divInt a b).den : Int) ≤ b := by
  rw [← div_den h]
  have := gcd_pos (a := a) h
  rw [Int.tdiv_eq_ediv_of_nonneg (by omega)]
  exact Int.ediv_le_self _ (by omega)
theorem fr_inj {p q : Rat} : fr p = fr q ↔ p = q := by
  constructor
  · intro h
    simp only [fr, Value.agg.injEq, Array.mk.injEq, List.cons.injEq, Value.int.injEq, true_and, and_true] at h
    exact Rat.ext h.1 (by omega)
  · rintro rfl; rfl
theorem den_pos (q : Rat) : 0 < (q.den : Int) := by have := q.den_pos; omega
theorem add_divInt (p q : Rat) : Rat.divInt (p.num * q.den + q.num * p.den) (p.den * q.den) = p + q := by
  rw [Rat.add_def', ← Rat.divInt_ofNat]; simp
theorem sub_divInt (p q : Rat) : Rat.divInt (p.num * q.den - q.num * p.den) (p.den * q.den) = p - q := by
  rw [Rat.sub_def', ← Rat.divInt_ofNat]; simp
theorem mul_divInt (p q : Rat) : Rat.divInt (p.num * q.num) (p.den * q.den) = p * q := by
  rw [Rat.mul_def', ← Rat.divInt_ofNat]; simp
theorem less_iff (p q : Rat) : decide (p.num * q.den < q.num * p.den) = decide (p < q) := by
  rw [decide_eq_decide]; exact (Rat.lt_iff p q).symm
/-- A pair in lowest terms is a rational number. -/
theorem lowest_rat {a b : Int} (h : 0 < b) (hg : Int.gcd a b = 1) : ∃ q : Rat, q.num = a ∧ (q.den : Int) = b := by
  refine ⟨Rat.divInt a b, ?_, ?_⟩
  · rw [← div_num h, hg]; simp
  · rw [← div_den h, hg]; simp
theorem rat_lowest (q : Rat) : Int.gcd q.num q.den = 1 := q.reduced
/-- A small product. -/
theorem mul_bd {a b m n : Int} (h1 : -m ≤ a) (h2 : a ≤ m) (h3 : 0 ≤ b) (h4 : b ≤ n) : -(m * n) ≤ a * b ∧ a * b ≤ m * n := by
  have hm : 0 ≤ m := by omega
  have ha : a.natAbs ≤ m.natAbs := by omega
  have hb : b.natAbs ≤ n.natAbs := by omega
  have h := Nat.mul_le_mul ha hb
  rw [← Int.natAbs_mul, ← Int.natAbs_mul] at h
  have : 0 ≤ m * n := Int.mul_nonneg hm (by omega)
  omega

/- Slices of fractions for the laws of append. -/

theorem info_frac : (Try.prog.info? 31).map (fun i => (i.zero, i.size, i.bytes)) = some (some (.agg #[.int .i64 0, .int .i64 0]), 2, 16) := by kernel_rfl
theorem sty_frac : STy 23 31 (.agg #[.int .i64 0, .int .i64 0]) 2 16 := ⟨Try.underlying23, info_frac, rfl, by decide, by decide⟩

/- Contracts of the fractions of the references (package corrodyref04): gcd, Of, Add, Sub, Mul, Less, Lowest. -/

set_option maxHeartbeats 400000 in
theorem rgcd_any (a b : Int) (w : World) (ha : 0 ≤ a) (hb : 0 ≤ b) (ha' : a ≤ 9223372036854775807) (hb' : b ≤ 9223372036854775807) :
    Calls Try.prog 62 #[.int .i64 a, .int .i64 b] w fun e w' => e = .returned (.int .i64 (Int.gcd a b)) ∧ ∃ n, w' = w.drewN n := by
  go_enter Try.func62, Try.ntmps62
  go_wp2
  go_loopw [0, 1] (fun x y wr => ∃ a' b' : Int, x = .int .i64 a' ∧ y = .int .i64 b' ∧ 0 ≤ a' ∧ a' ≤ 9223372036854775807 ∧ 0 ≤ b' ∧ b' ≤ 9223372036854775807 ∧ Int.gcd a' b' = Int.gcd a b ∧ ∃ n, wr = w.drewN n) (fun _ y _ => (intOf y).toNat)
  case atStart => exact ⟨a, b, rfl, rfl, ha, ha', hb, hb', rfl, 0, rfl⟩
  case round =>
    obtain ⟨a', b', rfl, rfl, h1, h2, h3, h4, hg, n, rfl⟩ := hrel
    have HG := Lib.hid hg
    clear hg
    by_cases h0 : b' = 0
    · subst h0
      go_wp2
      go_ret
      exact ⟨ret_int (by rw [← HG.out]; simp; omega), n, rfl⟩
    · have hr := Int.emod_nonneg a' h0
      have hr2 := Int.emod_lt_of_pos a' (show 0 < b' by omega)
      go_wp2
      go_quiet (fail)
      go_wp2
      go_roundw
      case rel => exact ⟨b', a' % b', rfl, by first | rfl | (rw [Int.tmod_eq_emod_of_nonneg h1]), h3, h4, hr, by omega, by rw [← HG.out, ← gcd_step a' b', Int.tmod_eq_emod_of_nonneg h1], n + _, World.drewN_drewN _ _ _⟩
      case measure => simp [intOf]; omega

set_option maxHeartbeats 400000 in
theorem rof_any (a b : Int) (w : World) (ha : -9223372036854775807 ≤ a) (ha' : a ≤ 9223372036854775807) (hb : 0 < b) (hb' : b ≤ 9223372036854775807) :
    Calls Try.prog 36 #[.int .i64 a, .int .i64 b] w fun e w' => e = .returned (fr (Rat.divInt a b)) ∧ Below w.heap.size w w' := by
  have hn := div_num (a := a) hb
  have hd := div_den (a := a) hb
  have hg := gcd_pos (a := a) hb
  have hgl := gcd_le (a := a) hb
  generalize hG : (Int.gcd a b : Int) = g at *
  generalize hQ : Rat.divInt a b = q at *
  rw [Int.tdiv_eq_ediv_of_nonneg (by omega)] at hd
  have HN := Lib.hid hn
  have HD := Lib.hid hd
  have HG := Lib.hid hG
  clear hn hd hG hQ
  go_enter Try.func36, Try.ntmps36
  by_cases h0 : a < 0
  · go_wp2_with fail
    refine (rgcd_any _ b _ (by omega) (by omega) (by omega) (by omega)).mono ?_
    rintro e w' ⟨rfl, n, rfl⟩
    rw [show ((-a).gcd b : Int) = g from by rw [Int.neg_gcd]; exact HG.out]
    go_wp2
    go_region
    go_wp2
    exact bodyPost_ret (v := fr q) (by simp [results, Try.results36, go_sem, fr, HN.out, HD.out]) rfl ⟨rfl, ((below_drewN ((Below.refl _ _).alloc (Nat.le_refl _) _) _).setCell (Nat.le_refl _) _).setCell (Nat.le_refl _) _⟩
  · have HN' : Hid (a / g = q.num) := Lib.hid (by rw [← HN.out, Int.tdiv_eq_ediv_of_nonneg (by omega)])
    go_wp2_with fail
    refine (rgcd_any _ b _ (by omega) (by omega) (by omega) (by omega)).mono ?_
    rintro e w' ⟨rfl, n, rfl⟩
    rw [show (a.gcd b : Int) = g from HG.out]
    go_wp2
    go_region
    go_wp2
    exact bodyPost_ret (v := fr q) (by simp [results, Try.results36, go_sem, fr, HN'.out, HD.out]) rfl ⟨rfl, ((below_drewN ((Below.refl _ _).alloc (Nat.le_refl _) _) _).setCell (Nat.le_refl _) _).setCell (Nat.le_refl _) _⟩

/-! arith -/
set_option maxHeartbeats 400000 in
theorem radd_raw (p q : Rat) (w : World) (h1 : -4000000000000000000 ≤ p.num * q.den) (h2 : p.num * q.den ≤ 4000000000000000000) (h3 : -4000000000000000000 ≤ q.num * p.den) (h4 : q.num * p.den ≤ 4000000000000000000) (h5 : (p.den : Int) * q.den ≤ 4000000000000000000) :
    Calls Try.prog 25 #[fr p, fr q] w fun e w' => e = .returned (fr (p + q)) ∧ Below w.heap.size w w' := by
  have hd : 0 < (p.den : Int) * q.den := Int.mul_pos (den_pos p) (den_pos q)
  have HL := Lib.hid (add_divInt p q)
  generalize hR : fr (p + q) = R
  have HR := Lib.hid hR
  clear hR
  unfold fr
  go_enter Try.func25, Try.ntmps25
  go_wp2_with fail
  refine (rof_any _ _ _ (by omega) (by omega) (by omega) (by omega)).mono ?_
  rintro e w' ⟨rfl, hb⟩
  rw [HL.out]
  have hB : Blk w' (w.heap.size + 1 + 1) 31 #[.int .i64 0, .int .i64 0] := (Blk.new _ _ _ (by simp)).below hb (by simp)
  obtain ⟨c0, c1, f0, f1⟩ := hB.at2
  have HB := Lib.hid hb
  clear hb hB
  unfold fr
  go_wp2
  refine bodyPost_ret (v := R) (by simp [results, Try.results25, go_sem, ← HR.out, fr, c0, c1]) rfl ⟨rfl, ?_⟩
  exact ((((((Below.refl _ _).alloc (by go_size) _).alloc (by go_size) _).alloc (by go_size) _).trans (HB.out.mono (by go_size))).setCell (by go_size) _).setCell (by go_size) _

set_option maxHeartbeats 400000 in
theorem rsub_raw (p q : Rat) (w : World) (h1 : -4000000000000000000 ≤ p.num * q.den) (h2 : p.num * q.den ≤ 4000000000000000000) (h3 : -4000000000000000000 ≤ q.num * p.den) (h4 : q.num * p.den ≤ 4000000000000000000) (h5 : (p.den : Int) * q.den ≤ 4000000000000000000) :
    Calls Try.prog 70 #[fr p, fr q] w fun e w' => e = .returned (fr (p - q)) ∧ Below w.heap.size w w' := by
  have hd : 0 < (p.den : Int) * q.den := Int.mul_pos (den_pos p) (den_pos q)
  have HL := Lib.hid (sub_divInt p q)
  generalize hR : fr (p - q) = R
  have HR := Lib.hid hR
  clear hR
  unfold fr
  go_enter Try.func70, Try.ntmps70
  go_wp2_with fail
  refine (rof_any _ _ _ (by omega) (by omega) (by omega) (by omega)).mono ?_
  rintro e w' ⟨rfl, hb⟩
  rw [HL.out]
  have hB : Blk w' (w.heap.size + 1 + 1) 31 #[.int .i64 0, .int .i64 0] := (Blk.new _ _ _ (by simp)).below hb (by simp)
  obtain ⟨c0, c1, f0, f1⟩ := hB.at2
  have HB := Lib.hid hb
  clear hb hB
  unfold fr
  go_wp2
  refine bodyPost_ret (v := R) (by simp [results, Try.results70, go_sem, ← HR.out, fr, c0, c1]) rfl ⟨rfl, ?_⟩
  exact ((((((Below.refl _ _).alloc (by go_size) _).alloc (by go_size) _).alloc (by go_size) _).trans (HB.out.mono (by go_size))).setCell (by go_size) _).setCell (by go_size) _

set_option maxHeartbeats 400000 in
theorem rmul_raw (p q : Rat) (w : World) (h1 : -4000000000000000000 ≤ p.num * q.num) (h2 : p.num * q.num ≤ 4000000000000000000) (h5 : (p.den : Int) * q.den ≤ 4000000000000000000) :
    Calls Try.prog 48 #[fr p, fr q] w fun e w' => e = .returned (fr (p * q)) ∧ Below w.heap.size w w' := by
  have hd : 0 < (p.den : Int) * q.den := Int.mul_pos (den_pos p) (den_pos q)
  have HL := Lib.hid (mul_divInt p q)
  generalize hR : fr (p * q) = R
  have HR := Lib.hid hR
  clear hR
  unfold fr
  go_enter Try.func48, Try.ntmps48
  go_wp2_with fail
  refine (rof_any _ _ _ (by omega) (by omega) (by omega) (by omega)).mono ?_
  rintro e w' ⟨rfl, hb⟩
  rw [HL.out]
  have hB : Blk w' (w.heap.size + 1 + 1) 31 #[.int .i64 0, .int .i64 0] := (Blk.new _ _ _ (by simp)).below hb (by simp)
  obtain ⟨c0, c1, f0, f1⟩ := hB.at2
  have HB := Lib.hid hb
  clear hb hB
  unfold fr
  go_wp2
  refine bodyPost_ret (v := R) (by simp [results, Try.results48, go_sem, ← HR.out, fr, c0, c1]) rfl ⟨rfl, ?_⟩
  exact ((((((Below.refl _ _).alloc (by go_size) _).alloc (by go_size) _).alloc (by go_size) _).trans (HB.out.mono (by go_size))).setCell (by go_size) _).setCell (by go_size) _

/- Contracts: Less, Lowest, whole, and the gcd and frac of package games. -/

set_option maxHeartbeats 400000 in
theorem rless_any (p q : Rat) (w : World) (h1 : -4000000000000000000 ≤ p.num * q.den) (h2 : p.num * q.den ≤ 4000000000000000000) (h3 : -4000000000000000000 ≤ q.num * p.den) (h4 : q.num * p.den ≤ 4000000000000000000) :
    Calls Try.prog 42 #[fr p, fr q] w fun e w' => e = .returned (.bool (decide (p < q))) ∧ Below w.heap.size w w' := by
  rw [← less_iff]
  unfold fr
  go_enter Try.func42, Try.ntmps42
  go_wp2
  go_ret
  exact ⟨rfl, ((Below.refl _ _).alloc (by go_size) _).alloc (by go_size) _⟩

/-- What Lowest answers of any pair. -/
def lowB (a b : Int) : Bool := decide (1 ≤ b) && decide (-4611686018427387904 < a) && ((Int.gcd a b : Int) == 1)

set_option maxHeartbeats 400000 in
theorem rlowest_any (a b : Int) (w : World) (ha : -9223372036854775808 ≤ a) (ha' : a ≤ 9223372036854775807) (hb' : b ≤ 9223372036854775807) :
    Calls Try.prog 22 #[.agg #[.int .i64 a, .int .i64 b]] w fun e w' => e = .returned (.bool (lowB a b)) ∧ Below w.heap.size w w' := by
  by_cases h1 : 1 ≤ b
  · by_cases h2 : -4611686018427387904 < a
    · have e : lowB a b = ((Int.gcd a b : Int) == 1) := by simp [lowB, h1, h2]
      rw [e]
      go_enter Try.func22, Try.ntmps22
      by_cases h0 : a < 0
      · go_wp2_with fail
        refine (rgcd_any _ b _ (by omega) (by omega) (by omega) (by omega)).mono ?_
        rintro e w' ⟨rfl, n, rfl⟩
        rw [show ((-a).gcd b : Int) = a.gcd b from by rw [Int.neg_gcd]]
        go_wp2
        go_ret
        exact ⟨rfl, below_drewN ((Below.refl _ _).alloc (by go_size) _) _⟩
      · go_wp2_with fail
        refine (rgcd_any _ b _ (by omega) (by omega) (by omega) (by omega)).mono ?_
        rintro e w' ⟨rfl, n, rfl⟩
        go_wp2
        go_ret
        exact ⟨rfl, below_drewN ((Below.refl _ _).alloc (by go_size) _) _⟩
    · have e : lowB a b = false := by simp [lowB, h2]
      rw [e]
      go_enter Try.func22, Try.ntmps22
      go_wp2
      go_ret
      exact ⟨rfl, (Below.refl _ _).alloc (by go_size) _⟩
  · have e : lowB a b = false := by simp [lowB, h1]
    rw [e]
    go_enter Try.func22, Try.ntmps22
    go_wp2
    go_ret
    exact ⟨rfl, (Below.refl _ _).alloc (by go_size) _⟩

theorem fr_int (n : Int) : fr (n : Rat) = .agg #[.int .i64 n, .int .i64 1] := rfl

theorem rwhole_any (n : Int) (w : World) : Calls Try.prog 63 #[.int .i64 n] w fun e w' => e = .returned (fr (n : Rat)) ∧ Below w.heap.size w w' := by
  rw [fr_int]
  go_enter Try.func63, Try.ntmps63
  go_wp2
  exact bodyPost_ret (v := .agg #[.int .i64 n, .int .i64 1]) (by simp [results, Try.results63, go_sem]) rfl ⟨rfl, (Below.refl _ _).alloc (Nat.le_refl _) _⟩
theorem lwhole_any (n : Int) (w : World) : Calls Try.prog 24 #[.int .i64 n] w fun e w' => e = .returned (fr (n : Rat)) ∧ Below w.heap.size w w' := by
  rw [fr_int]
  go_enter Try.func24, Try.ntmps24
  go_wp2
  exact bodyPost_ret (v := .agg #[.int .i64 n, .int .i64 1]) (by simp [results, Try.results24, go_sem]) rfl ⟨rfl, (Below.refl _ _).alloc (Nat.le_refl _) _⟩

set_option maxHeartbeats 400000 in
theorem ggcd_any (a b : Int) (w : World) (ha : -9223372036854775807 ≤ a) (ha' : a ≤ 9223372036854775807) (hb : -9223372036854775807 ≤ b) (hb' : b ≤ 9223372036854775807) :
    Calls Try.prog 86 #[.int .i64 a, .int .i64 b] w fun e w' => e = .returned (.int .i64 (Int.gcd a b)) ∧ ∃ n, w' = w.drewN n := by
  go_enter Try.func86, Try.ntmps86
  go_wp2
  go_loopw [0, 1] (fun x y wr => ∃ a' b' : Int, x = .int .i64 a' ∧ y = .int .i64 b' ∧ -9223372036854775807 ≤ a' ∧ a' ≤ 9223372036854775807 ∧ -9223372036854775807 ≤ b' ∧ b' ≤ 9223372036854775807 ∧ Int.gcd a' b' = Int.gcd a b ∧ ∃ n, wr = w.drewN n) (fun _ y _ => (intOf y).natAbs)
  case atStart => exact ⟨a, b, rfl, rfl, ha, ha', hb, hb', rfl, 0, rfl⟩
  case round =>
    obtain ⟨a', b', rfl, rfl, h1, h2, h3, h4, hg, n, rfl⟩ := hrel
    have HG := Lib.hid hg
    clear hg
    by_cases h0 : b' = 0
    · subst h0
      have HA : Hid ((Int.gcd a b : Int) = a'.natAbs) := Lib.hid (by rw [← HG.out]; simp)
      by_cases hs : a' < 0
      · go_wp2
        go_ret
        exact ⟨ret_int (by rw [HA.out]; omega), n, rfl⟩
      · go_wp2
        go_ret
        exact ⟨ret_int (by rw [HA.out]; omega), n, rfl⟩
    · have hr : (a'.tmod b').natAbs < b'.natAbs := by rw [Int.natAbs_tmod]; exact Nat.mod_lt _ (by omega)
      have HR := Lib.hid hr
      clear hr
      go_wp2
      go_quiet (fail)
      go_wp2
      go_roundw
      case rel => exact ⟨b', a'.tmod b', rfl, rfl, h3, h4, by have := HR.out; omega, by have := HR.out; omega, by rw [← HG.out, ← gcd_step a' b'], n + _, World.drewN_drewN _ _ _⟩
      case measure => have h := HR.out; rw [Int.natAbs_tmod] at h; simpa [intOf] using h

set_option maxHeartbeats 400000 in
theorem gfrac_any (a b : Int) (w : World) (ha : -9223372036854775807 ≤ a) (ha' : a ≤ 9223372036854775807) (hb : 0 < b) (hb' : b ≤ 9223372036854775807) :
    Calls Try.prog 61 #[.int .i64 a, .int .i64 b] w fun e w' => e = .returned (fr (Rat.divInt a b)) ∧ Below w.heap.size w w' := by
  have hn := div_num (a := a) hb
  have hd := div_den (a := a) hb
  have hg := gcd_pos (a := a) hb
  have hgl := gcd_le (a := a) hb
  generalize hG : (Int.gcd a b : Int) = g at *
  generalize hQ : Rat.divInt a b = q at *
  rw [Int.tdiv_eq_ediv_of_nonneg (by omega)] at hd
  have HN := Lib.hid hn
  have HD := Lib.hid hd
  have HG := Lib.hid hG
  clear hn hd hG hQ
  go_enter Try.func61, Try.ntmps61
  go_wp2_with fail
  refine (ggcd_any a b _ (by omega) (by omega) (by omega) (by omega)).mono ?_
  rintro e w' ⟨rfl, n, rfl⟩
  rw [show (a.gcd b : Int) = g from HG.out]
  by_cases h0 : a < 0
  · go_wp2
    go_region
    go_wp2
    exact bodyPost_ret (v := fr q) (by simp [results, Try.results61, go_sem, fr, HN.out, HD.out]) rfl ⟨rfl, ((below_drewN ((Below.refl _ _).alloc (Nat.le_refl _) _) _).setCell (Nat.le_refl _) _).setCell (Nat.le_refl _) _⟩
  · have HN' : Hid (a / g = q.num) := Lib.hid (by rw [← HN.out, Int.tdiv_eq_ediv_of_nonneg (by omega)])
    go_wp2
    go_region
    go_wp2
    exact bodyPost_ret (v := fr q) (by simp [results, Try.results61, go_sem, fr, HN'.out, HD.out]) rfl ⟨rfl, ((below_drewN ((Below.refl _ _).alloc (Nat.le_refl _) _) _).setCell (Nat.le_refl _) _).setCell (Nat.le_refl _) _⟩

/- The Shapley sums written out for one to four players, and the laws that they keep: plain Lean. -/


theorem len_cons {α : Type} {l : List α} {n : Nat} (h : l.length = n + 1) : ∃ a t, l = a :: t ∧ t.length = n := by
  cases l with
  | nil => simp at h
  | cons a t => exact ⟨a, t, rfl, by simpa using h⟩
theorem len_zero {α : Type} {l : List α} (h : l.length = 0) : l = [] := List.eq_nil_of_length_eq_zero h

/-- The sums over all orders. -/
def sumsL (c : List Int) (n : Nat) : List Int := addAll c n (List.replicate n 0) (ext n n [])

theorem list2 (l : List Int) (h : l.length = 2) : ∃ c0 c1 : Int, l = [c0, c1] := by
  obtain ⟨c0, l0, rfl, h0⟩ := len_cons h
  obtain ⟨c1, l1, rfl, h1⟩ := len_cons h0
  obtain rfl := len_zero h1
  exact ⟨c0, c1, rfl⟩
theorem sums1_raw (c0 c1 : Int) : sumsL [c0, c1] 1 = [(0 + (c1 - c0))] := by kernel_rfl
theorem sums1 (c0 c1 : Int) : sumsL [c0, c1] 1 = [(-1) * c0 + (1) * c1] := by
  rw [sums1_raw]
  simp only [List.cons.injEq, and_true]
  omega

theorem list4 (l : List Int) (h : l.length = 4) : ∃ c0 c1 c2 c3 : Int, l = [c0, c1, c2, c3] := by
  obtain ⟨c0, l0, rfl, h0⟩ := len_cons h
  obtain ⟨c1, l1, rfl, h1⟩ := len_cons h0
  obtain ⟨c2, l2, rfl, h2⟩ := len_cons h1
  obtain ⟨c3, l3, rfl, h3⟩ := len_cons h2
  obtain rfl := len_zero h3
  exact ⟨c0, c1, c2, c3, rfl⟩
theorem sums2_raw (c0 c1 c2 c3 : Int) : sumsL [c0, c1, c2, c3] 2 = [((0 + (c1 - c0)) + (c3 - c2)), ((0 + (c3 - c1)) + (c2 - c0))] := by kernel_rfl
theorem sums2 (c0 c1 c2 c3 : Int) : sumsL [c0, c1, c2, c3] 2 = [(-1) * c0 + (1) * c1 + (-1) * c2 + (1) * c3, (-1) * c0 + (-1) * c1 + (1) * c2 + (1) * c3] := by
  rw [sums2_raw]
  simp only [List.cons.injEq, and_true]
  omega

theorem list8 (l : List Int) (h : l.length = 8) : ∃ c0 c1 c2 c3 c4 c5 c6 c7 : Int, l = [c0, c1, c2, c3, c4, c5, c6, c7] := by
  obtain ⟨c0, l0, rfl, h0⟩ := len_cons h
  obtain ⟨c1, l1, rfl, h1⟩ := len_cons h0
  obtain ⟨c2, l2, rfl, h2⟩ := len_cons h1
  obtain ⟨c3, l3, rfl, h3⟩ := len_cons h2
  obtain ⟨c4, l4, rfl, h4⟩ := len_cons h3
  obtain ⟨c5, l5, rfl, h5⟩ := len_cons h4
  obtain ⟨c6, l6, rfl, h6⟩ := len_cons h5
  obtain ⟨c7, l7, rfl, h7⟩ := len_cons h6
  obtain rfl := len_zero h7
  exact ⟨c0, c1, c2, c3, c4, c5, c6, c7, rfl⟩
theorem sums3_raw (c0 c1 c2 c3 c4 c5 c6 c7 : Int) : sumsL [c0, c1, c2, c3, c4, c5, c6, c7] 3 = [((((((0 + (c1 - c0)) + (c1 - c0)) + (c3 - c2)) + (c7 - c6)) + (c5 - c4)) + (c7 - c6)), ((((((0 + (c3 - c1)) + (c7 - c5)) + (c2 - c0)) + (c2 - c0)) + (c7 - c5)) + (c6 - c4)), ((((((0 + (c7 - c3)) + (c5 - c1)) + (c7 - c3)) + (c6 - c2)) + (c4 - c0)) + (c4 - c0))] := by kernel_rfl
theorem sums3 (c0 c1 c2 c3 c4 c5 c6 c7 : Int) : sumsL [c0, c1, c2, c3, c4, c5, c6, c7] 3 = [(-2) * c0 + (2) * c1 + (-1) * c2 + (1) * c3 + (-1) * c4 + (1) * c5 + (-2) * c6 + (2) * c7, (-2) * c0 + (-1) * c1 + (2) * c2 + (1) * c3 + (-1) * c4 + (-2) * c5 + (1) * c6 + (2) * c7, (-2) * c0 + (-1) * c1 + (-1) * c2 + (-2) * c3 + (2) * c4 + (1) * c5 + (1) * c6 + (2) * c7] := by
  rw [sums3_raw]
  simp only [List.cons.injEq, and_true]
  omega

theorem list16 (l : List Int) (h : l.length = 16) : ∃ c0 c1 c2 c3 c4 c5 c6 c7 c8 c9 c10 c11 c12 c13 c14 c15 : Int, l = [c0, c1, c2, c3, c4, c5, c6, c7, c8, c9, c10, c11, c12, c13, c14, c15] := by
  obtain ⟨c0, l0, rfl, h0⟩ := len_cons h
  obtain ⟨c1, l1, rfl, h1⟩ := len_cons h0
  obtain ⟨c2, l2, rfl, h2⟩ := len_cons h1
  obtain ⟨c3, l3, rfl, h3⟩ := len_cons h2
  obtain ⟨c4, l4, rfl, h4⟩ := len_cons h3
  obtain ⟨c5, l5, rfl, h5⟩ := len_cons h4
  obtain ⟨c6, l6, rfl, h6⟩ := len_cons h5
  obtain ⟨c7, l7, rfl, h7⟩ := len_cons h6
  obtain ⟨c8, l8, rfl, h8⟩ := len_cons h7
  obtain ⟨c9, l9, rfl, h9⟩ := len_cons h8
  obtain ⟨c10, l10, rfl, h10⟩ := len_cons h9
  obtain ⟨c11, l11, rfl, h11⟩ := len_cons h10
  obtain ⟨c12, l12, rfl, h12⟩ := len_cons h11
  obtain ⟨c13, l13, rfl, h13⟩ := len_cons h12
  obtain ⟨c14, l14, rfl, h14⟩ := len_cons h13
  obtain ⟨c15, l15, rfl, h15⟩ := len_cons h14
  obtain rfl := len_zero h15
  exact ⟨c0, c1, c2, c3, c4, c5, c6, c7, c8, c9, c10, c11, c12, c13, c14, c15, rfl⟩
theorem sums4_raw (c0 c1 c2 c3 c4 c5 c6 c7 c8 c9 c10 c11 c12 c13 c14 c15 : Int) : sumsL [c0, c1, c2, c3, c4, c5, c6, c7, c8, c9, c10, c11, c12, c13, c14, c15] 4 = [((((((((((((((((((((((((0 + (c1 - c0)) + (c1 - c0)) + (c1 - c0)) + (c1 - c0)) + (c1 - c0)) + (c1 - c0)) + (c3 - c2)) + (c3 - c2)) + (c7 - c6)) + (c15 - c14)) + (c11 - c10)) + (c15 - c14)) + (c5 - c4)) + (c5 - c4)) + (c7 - c6)) + (c15 - c14)) + (c13 - c12)) + (c15 - c14)) + (c9 - c8)) + (c9 - c8)) + (c11 - c10)) + (c15 - c14)) + (c13 - c12)) + (c15 - c14)), ((((((((((((((((((((((((0 + (c3 - c1)) + (c3 - c1)) + (c7 - c5)) + (c15 - c13)) + (c11 - c9)) + (c15 - c13)) + (c2 - c0)) + (c2 - c0)) + (c2 - c0)) + (c2 - c0)) + (c2 - c0)) + (c2 - c0)) + (c7 - c5)) + (c15 - c13)) + (c6 - c4)) + (c6 - c4)) + (c15 - c13)) + (c14 - c12)) + (c11 - c9)) + (c15 - c13)) + (c10 - c8)) + (c10 - c8)) + (c15 - c13)) + (c14 - c12)), ((((((((((((((((((((((((0 + (c7 - c3)) + (c15 - c11)) + (c5 - c1)) + (c5 - c1)) + (c15 - c11)) + (c13 - c9)) + (c7 - c3)) + (c15 - c11)) + (c6 - c2)) + (c6 - c2)) + (c15 - c11)) + (c14 - c10)) + (c4 - c0)) + (c4 - c0)) + (c4 - c0)) + (c4 - c0)) + (c4 - c0)) + (c4 - c0)) + (c15 - c11)) + (c13 - c9)) + (c15 - c11)) + (c14 - c10)) + (c12 - c8)) + (c12 - c8)), ((((((((((((((((((((((((0 + (c15 - c7)) + (c11 - c3)) + (c15 - c7)) + (c13 - c5)) + (c9 - c1)) + (c9 - c1)) + (c15 - c7)) + (c11 - c3)) + (c15 - c7)) + (c14 - c6)) + (c10 - c2)) + (c10 - c2)) + (c15 - c7)) + (c13 - c5)) + (c15 - c7)) + (c14 - c6)) + (c12 - c4)) + (c12 - c4)) + (c8 - c0)) + (c8 - c0)) + (c8 - c0)) + (c8 - c0)) + (c8 - c0)) + (c8 - c0))] := by kernel_rfl
theorem sums4 (c0 c1 c2 c3 c4 c5 c6 c7 c8 c9 c10 c11 c12 c13 c14 c15 : Int) : sumsL [c0, c1, c2, c3, c4, c5, c6, c7, c8, c9, c10, c11, c12, c13, c14, c15] 4 = [(-6) * c0 + (6) * c1 + (-2) * c2 + (2) * c3 + (-2) * c4 + (2) * c5 + (-2) * c6 + (2) * c7 + (-2) * c8 + (2) * c9 + (-2) * c10 + (2) * c11 + (-2) * c12 + (2) * c13 + (-6) * c14 + (6) * c15, (-6) * c0 + (-2) * c1 + (6) * c2 + (2) * c3 + (-2) * c4 + (-2) * c5 + (2) * c6 + (2) * c7 + (-2) * c8 + (-2) * c9 + (2) * c10 + (2) * c11 + (-2) * c12 + (-6) * c13 + (2) * c14 + (6) * c15, (-6) * c0 + (-2) * c1 + (-2) * c2 + (-2) * c3 + (6) * c4 + (2) * c5 + (2) * c6 + (2) * c7 + (-2) * c8 + (-2) * c9 + (-2) * c10 + (-6) * c11 + (2) * c12 + (2) * c13 + (2) * c14 + (6) * c15, (-6) * c0 + (-2) * c1 + (-2) * c2 + (-2) * c3 + (-2) * c4 + (-2) * c5 + (-2) * c6 + (-6) * c7 + (6) * c8 + (2) * c9 + (2) * c10 + (2) * c11 + (2) * c12 + (2) * c13 + (2) * c14 + (6) * c15] := by
  rw [sums4_raw]
  simp only [List.cons.injEq, and_true]
  omega


/- What the Shapley payments keep: plain Lean. -/

theorem add_same (a b F : Int) : Rat.divInt a F + Rat.divInt b F = Rat.divInt (a + b) F := by
  rw [Rat.divInt_eq_div, Rat.divInt_eq_div, Rat.divInt_eq_div, Rat.intCast_add, Rat.div_def, Rat.div_def, Rat.div_def, Rat.add_mul]
theorem divInt_cancel (x : Int) {F : Int} (h : F ≠ 0) : Rat.divInt (F * x) F = (x : Rat) := by
  rw [Rat.divInt_eq_div, Rat.intCast_mul, Rat.mul_comm, Rat.mul_div_cancel (by exact_mod_cast h)]

/-- The payments. -/
def shapL (c : List Int) (n : Nat) : List Rat := (sumsL c n).map fun s => Rat.divInt s ((ext n n []).length : Nat)
theorem ext_len {n : Nat} (h : n ≤ 4) : 1 ≤ (ext n n []).length ∧ (ext n n []).length ≤ 24 := by
  match n, h with
  | 0, _ => decide
  | 1, _ => decide
  | 2, _ => decide
  | 3, _ => decide +kernel
  | 4, _ => decide +kernel
theorem shapL_length (c : List Int) (n : Nat) : (shapL c n).length = n := by
  unfold shapL sumsL; rw [List.length_map, addAll_length]; simp

theorem addAll_bd {c : List Int} (hcb : ∀ x ∈ c, 0 ≤ x ∧ x ≤ 1000) (n : Nat) (L : List (List Nat)) : ∀ (sums : List Int) (m : Int), 0 ≤ m → (∀ y ∈ sums, -m ≤ y ∧ y ≤ m) → ∀ y ∈ addAll c n sums L, -(m + 1000 * L.length) ≤ y ∧ y ≤ m + 1000 * L.length := by
  induction L with
  | nil => intro sums m hm h y hy; have := h y hy; simp; omega
  | cons os L ih =>
    intro sums m hm h y hy
    have := ih (addUp sums (joinL c os) n) (m + 1000) (by omega) (addUp_bd h (joinL_bd hcb os) hm n) y hy
    simp only [List.length_cons]
    omega
theorem sums_bd {c : List Int} (hcb : ∀ x ∈ c, 0 ≤ x ∧ x ≤ 1000) {n : Nat} (h : n ≤ 4) : ∀ y ∈ sumsL c n, -24000 ≤ y ∧ y ≤ 24000 := by
  intro y hy
  have h1 := addAll_bd hcb n (ext n n []) (List.replicate n 0) 0 (by omega) (by intro z hz; rw [List.mem_replicate] at hz; omega) y hy
  have h2 := ext_len h
  omega
/-- Small fractions. -/
def smallQ (q : Rat) : Prop := (q.den : Int) ≤ 24 ∧ -100000 ≤ q.num ∧ q.num ≤ 100000
theorem shapL_small {c : List Int} (hcb : ∀ x ∈ c, 0 ≤ x ∧ x ≤ 1000) {n : Nat} (h : n ≤ 4) : ∀ q ∈ shapL c n, smallQ q := by
  intro q hq
  simp only [shapL, List.mem_map] at hq
  obtain ⟨s, hs, rfl⟩ := hq
  have h1 := sums_bd hcb h s hs
  have h2 := ext_len h
  have hF : (0 : Int) < ((ext n n []).length : Nat) := by omega
  have h3 := divInt_den_le (a := s) hF
  have h4 := divInt_bd (a := s) hF (m := 24000) h1.1 h1.2
  exact ⟨by omega, by omega, by omega⟩

/-- The payment of a set. -/
def paysL (qs : List Rat) (set : Nat) : Rat := (List.range qs.length).foldl (fun s i => if set.testBit i then s + qs.getD i 0 else s) 0
def paysTo (qs : List Rat) (set k : Nat) : Rat := (List.range k).foldl (fun s i => if set.testBit i then s + qs.getD i 0 else s) 0
theorem paysTo_succ (qs : List Rat) (set k : Nat) : paysTo qs set (k + 1) = if set.testBit k then paysTo qs set k + qs.getD k 0 else paysTo qs set k := by
  simp [paysTo, List.range_succ]

theorem F1 : (ext 1 1 []).length = 1 := by decide
theorem F2 : (ext 2 2 []).length = 2 := by decide
theorem F3 : (ext 3 3 []).length = 6 := by decide +kernel
theorem F4 : (ext 4 4 []).length = 24 := by decide +kernel

set_option maxHeartbeats 4000000 in
/-- The payments of all sum to the cost of all. -/
theorem shap_sum {c : List Int} {n : Nat} (hn : 1 ≤ n ∧ n ≤ 4) (hl : c.length = 2 ^ n) (h0 : c.getD 0 0 = 0) : paysL (shapL c n) (2 ^ n - 1) = ((c.getD (2 ^ n - 1) 0 : Int) : Rat) := by
  have key : ∀ (s x F : Int), F ≠ 0 → s = F * x → Rat.divInt s F = (x : Rat) := fun s x F hF h => by rw [h, divInt_cancel x hF]
  match n, hn with
  | 1, _ =>
    obtain ⟨c0, c1, rfl⟩ := list2 c hl
    simp only [List.getD_cons_zero] at h0
    unfold shapL
    rw [sums1, F1]
    simp only [paysL, List.map_cons, List.map_nil, List.length_cons, List.length_nil, List.range_succ, List.range_zero, List.nil_append, List.foldl_cons, List.foldl_nil, List.getD_cons_zero, Rat.zero_add]
    rw [if_pos (by decide)]
    exact key _ _ _ (by decide) (by show _ = 1 * c1; omega)
  | 2, _ =>
    obtain ⟨c0, c1, c2, c3, rfl⟩ := list4 c hl
    simp only [List.getD_cons_zero] at h0
    unfold shapL
    rw [sums2, F2]
    simp only [paysL, List.map_cons, List.map_nil, List.length_cons, List.length_nil, List.range_succ, List.range_zero, List.nil_append, List.cons_append, List.foldl_cons, List.foldl_nil, List.getD_cons_zero, List.getD_cons_succ, Rat.zero_add]
    rw [if_pos (by decide), if_pos (by decide), add_same]
    exact key _ _ _ (by decide) (by show _ = 2 * c3; omega)
  | 3, _ =>
    obtain ⟨c0, c1, c2, c3, c4, c5, c6, c7, rfl⟩ := list8 c hl
    simp only [List.getD_cons_zero] at h0
    unfold shapL
    rw [sums3, F3]
    simp only [paysL, List.map_cons, List.map_nil, List.length_cons, List.length_nil, List.range_succ, List.range_zero, List.nil_append, List.cons_append, List.foldl_cons, List.foldl_nil, List.getD_cons_zero, List.getD_cons_succ, Rat.zero_add]
    rw [if_pos (by decide), if_pos (by decide), if_pos (by decide), add_same, add_same]
    exact key _ _ _ (by decide) (by show _ = 6 * c7; omega)
  | 4, _ =>
    obtain ⟨c0, c1, c2, c3, c4, c5, c6, c7, c8, c9, c10, c11, c12, c13, c14, c15, rfl⟩ := list16 c hl
    simp only [List.getD_cons_zero] at h0
    unfold shapL
    rw [sums4, F4]
    simp only [paysL, List.map_cons, List.map_nil, List.length_cons, List.length_nil, List.range_succ, List.range_zero, List.nil_append, List.cons_append, List.foldl_cons, List.foldl_nil, List.getD_cons_zero, List.getD_cons_succ, Rat.zero_add]
    rw [if_pos (by decide), if_pos (by decide), if_pos (by decide), if_pos (by decide), add_same, add_same, add_same]
    refine key _ c15 ((24 : Nat) : Int) (by decide) ?_
    omega

/- Contract: Shapley of package games. -/

/-- The cells of a row of fractions. -/
def fcells (qs : List Rat) : List Value := qs.flatMap fun q => [.int .i64 q.num, .int .i64 (q.den : Int)]
theorem fcells_snoc (qs : List Rat) (q : Rat) : fcells (qs ++ [q]) = fcells qs ++ [.int .i64 q.num, .int .i64 (q.den : Int)] := by simp [fcells]

theorem plr_np {xs : List Int} (h : valC xs = true) : xs.length = 2 ∧ plr xs = 1 ∨ xs.length = 4 ∧ plr xs = 2 ∨ xs.length = 8 ∧ plr xs = 3 ∨ xs.length = 16 ∧ plr xs = 4 := by
  have h1 := (valC_iff.1 h).1
  unfold plr
  rw [if_pos h]
  rcases h1 with h | h | h | h <;> simp [h]

set_option maxHeartbeats 1600000 in
theorem shapley_bad (A : Option Addr) (n cap : Nat) (xs : List Int) (w : World) (hl : xs.length = n) (hm : n ≤ 9223372036854775807) (h : Ints w A xs) (hv : valC xs = false) :
    Calls Try.prog 18 #[.slice A n cap] w fun e w' => e = .returned (.tuple #[.slice none 0 0, .int .i64 2]) ∧ Below w.heap.size w w' := by
  have hI : Ints (w.alloc (.cells #[.slice A n cap] 69)) A xs := h.below ((Below.refl _ _).alloc (by go_size) _)
  have HI := Lib.hid hI
  have HL := Lib.hid hl
  have HV := Lib.hid hv
  clear hI hl hv h
  go_enter Try.func18, Try.ntmps18
  go_wp2_with fail
  refine (valid_any A n cap xs _ HL.out hm HI.out).mono ?_
  rintro e w1 ⟨rfl, hb⟩
  rw [HV.out]
  have HB := Lib.hid hb
  clear hb
  go_wp2
  go_ret2
  exact ⟨rfl, ((Below.refl _ _).alloc (by go_size) _).trans (HB.out.mono (by go_size))⟩

set_option maxHeartbeats 1600000 in
theorem shapley_ok (A : Option Addr) (N cap : Nat) (xs : List Int) (w : World) (hl : xs.length = N) (h : Ints w A xs) (hv : valC xs = true) :
    Calls Try.prog 18 #[.slice A N cap] w fun e w' => ∃ A' c', e = .returned (.tuple #[.slice A' (plr xs) c', .int .i64 0]) ∧ w'.ownsRow w.heap.size 31 2 (.slice A' (plr xs) c') (plr xs) (fcells (shapL xs (plr xs))) ∧ Below w.heap.size w w' := by
  have hnp := plr_np hv
  rw [hl] at hnp
  obtain ⟨n, hn⟩ : ∃ n, n = plr xs := ⟨_, rfl⟩
  rw [← hn] at hnp ⊢
  obtain ⟨ac, rfl, hac, hc⟩ := h.some_ (by omega)
  have hI : Ints (w.alloc (.cells #[.slice (some ac) N cap] 69)) (some ac) xs := h.below ((Below.refl _ _).alloc (by go_size) _)
  have hn4 : n ≤ 4 := by omega
  have hn0 : 1 ≤ n := by omega
  have hNl : N ≤ 16 := by omega
  have hmk := make_ints n (by omega)
  have hN : N = 2 ^ n := by rcases hnp with ⟨h1, h2⟩ | ⟨h1, h2⟩ | ⟨h1, h2⟩ | ⟨h1, h2⟩ <;> rw [h1, h2] <;> rfl
  have hcb := (valC_iff.1 hv).2.2
  have hel := ext_len hn4
  have H := Lib.hid (And.intro hI (And.intro hl (And.intro hv (And.intro hnp (And.intro hN (And.intro hcb (And.intro hc (And.intro hac hel))))))))
  clear hI hl hv hnp hN hcb hn h hc hac hel
  go_enter Try.func18, Try.ntmps18
  go_wp2_with fail
  refine (valid_any (some ac) N cap xs _ H.out.2.1 (by omega) H.out.1).mono ?_
  rintro e w1 ⟨rfl, hb⟩
  rw [H.out.2.2.1]
  have hbk : Blk w1 w.heap.size 69 #[.slice (some ac) N cap] := (Blk.new _ _ _ rfl).below hb (by go_size)
  obtain ⟨k0, k1⟩ := hbk.at1
  have hw1 : Below w.heap.size w w1 := ((Below.refl _ _).alloc (by go_size) _).trans (hb.mono (by go_size))
  have hz1 := hbk.lt
  have H1 := Lib.hid (And.intro hbk hw1)
  clear hb hbk hw1
  go_wp2_with fail
  refine (players_any _ _ n _ _ H.out.2.2.2.1).mono ?_
  rintro e w' ⟨rfl, rfl⟩
  have B3 : ∀ o1 o2 o3, Below w1.heap.size w1 (((w1.alloc o1).alloc o2).alloc o3) := fun o1 o2 o3 => (((Below.refl _ _).alloc (by go_size) _).alloc (by go_size) _).alloc (by go_size) _
  have k2 : ∀ o1 o2 o3, (((w1.alloc o1).alloc o2).alloc o3).cell? ⟨w.heap.size, 0, none⟩ = some (.slice (some ac) N cap) := fun o1 o2 o3 => ((B3 o1 o2 o3).cell hz1).trans k0
  have HB3 := Lib.hid B3
  clear B3
  go_wp2_with fail
  clear k2
  have B3 := HB3.out
  obtain ⟨hI, hl, hv, hnp, hN, hcb, hc, hac, hel⟩ := H.out
  obtain ⟨hbk, hw1⟩ := H1.out
  have hacw := Nat.lt_of_lt_of_le hac hw1.size
  refine (orders_any ac N cap n (w1.heap.size + 1 + 1) w.heap.size (w1.heap.size + 1) w1.heap.size xs (List.replicate n 0) _ hn4 hn0 hN hl (by simp) hcb (by simp) (by omega)
    (fun i x hi => ((B3 _ _ _).cell (lt_of_cell ((hw1.cell (lt_of_cell (hc i x hi))).trans (hc i x hi)))).trans ((hw1.cell (lt_of_cell (hc i x hi))).trans (hc i x hi))) (by simp; omega)
    (Blk.new _ _ _ (by simp)) (hbk.below (B3 _ _ _) hz1) ((Blk.new _ _ _ (by simp)).alloc _) (((Blk.new _ _ _ rfl).alloc _).alloc _)
    (by omega) (by omega) (by omega) (by omega) (by omega) (by omega) (by omega)).mono ?_
  rintro e w2 ⟨rfl, hbc2, hbS2, hbd2, hK2⟩
  have hb2 : Below w1.heap.size w1 w2 := by
    have h := ((Kept.of_below (B3 (.cells (arr (List.replicate n 0)) 3) (.cells #[.slice (some ⟨w1.heap.size, 0, none⟩) n n] 22) (.cells #[.int .i64 0] 3)) []).trans (hK2.mono (by go_size) (by intro x hx; simp only [List.mem_cons, List.not_mem_nil, or_false] at hx; exact .inr (by omega))))
    exact h.below
  have hbs2 : Blk w2 (w1.heap.size + 1) 22 #[.slice (some ⟨w1.heap.size, 0, none⟩) n n] := ((Blk.new _ _ _ (by simp)).alloc _).kept hK2 (by simp) (by simp)
  have hW2 : Below w.heap.size w w2 := hw1.trans (hb2.mono hw1.size)
  have hzz := hbS2.lt
  have hbs2' := hbs2.lt
  have hbc2' := hbc2.lt
  obtain ⟨u0, u1⟩ := hbs2.at1
  have H2 := Lib.hid (And.intro hbc2 (And.intro hbS2 (And.intro hbd2 (And.intro hbs2 hW2))))
  have hwz : w.heap.size ≤ w2.heap.size := hW2.size
  clear hbc2 hbS2 hbd2 hK2 hb2 hbs2 hW2 B3 hI hl hv hnp hN hcb hc hac hel hbk hw1 HB3 k0 k1
  obtain ⟨cn, hcn⟩ : ∃ cn, cn = (ext n n []).length := ⟨_, rfl⟩
  rw [← hcn] at H2
  have hcn2 := H.out.2.2.2.2.2.2.2.2
  rw [← hcn] at hcn2
  have HCN := Lib.hid hcn
  clear hcn
  go_wp2
  go_loopw [7, 22] (fun ov iv wr => ∃ (k : Nat) (A : Option Addr) (cp : Nat), k ≤ n ∧ iv = .int .i64 k ∧ ov = .slice A k cp ∧ wr.ownsRow w2.heap.size 31 2 (.slice A k cp) k (fcells ((shapL xs n).take k)) ∧ Below w2.heap.size w2 wr) (fun _ iv _ => n - (intOf iv).toNat)
  case atStart => exact ⟨0, none, 0, Nat.zero_le _, rfl, rfl, by simpa [fcells] using World.ownsRow_nil _ _ _ _, Below.refl _ _⟩
  case round =>
    obtain ⟨k, A, cp, hkn, rfl, rfl, hown, hbl⟩ := hrel
    obtain ⟨hbc2, hbS2, hbd2, hbs2, hW2⟩ := H2.out
    by_cases hlt : k < n
    · have hsl : (sumsL xs n).length = n := by unfold sumsL; rw [addAll_length]; simp
      obtain ⟨x, hx⟩ : ∃ x, (sumsL xs n)[k]? = some x := ⟨_, List.getElem?_eq_getElem (by rw [hsl]; exact hlt)⟩
      have hxb := hbd2 x (List.mem_of_getElem? hx)
      have c1 : wr.cell? ⟨w1.heap.size, k, none⟩ = some (.int .i64 x) := by
        rw [(hbS2.below hbl hbS2.lt).cell, arr_get]
        show ((sumsL xs n)[k]?).map _ = _
        rw [hx]; rfl
      obtain ⟨c2, _⟩ := (hbc2.below hbl hbc2.lt).at1
      have hq : (shapL xs n)[k]? = some (Rat.divInt x cn) := by unfold shapL; rw [List.getElem?_map, hx, HCN.out]; rfl
      have HNEW : Hid (fcells ((shapL xs n).take (k + 1)) = fcells ((shapL xs n).take k) ++ [.int .i64 (Rat.divInt x cn).num, .int .i64 ((Rat.divInt x cn).den : Int)]) := Lib.hid (by
        rw [List.take_add_one, hq]; exact fcells_snoc _ _)
      have HR := Lib.hid (And.intro hown hbl)
      clear hown hbl hx hq hsl hbc2 hbS2 hbd2 hbs2 hW2
      go_wp2_with fail
      refine (gfrac_any x cn _ (by omega) (by omega) (by omega) (by omega)).mono ?_
      rintro e w3 ⟨rfl, hb3⟩
      generalize Rat.divInt x (cn : Int) = q at HNEW ⊢
      have hown3 := own_below HR.out.1 hb3
      have hbl3 : Below w2.heap.size w2 w3 := HR.out.2.trans (hb3.mono HR.out.2.size)
      have HR3 := Lib.hid (And.intro hown3 hbl3)
      have hw3 : w2.heap.size ≤ w3.heap.size := hbl3.size
      clear hown3 hbl3 hb3
      unfold fr
      go_wp2_with (at_builtin; refine app1 sty_frac rfl _ _ rfl w2.heap.size A k cp _ #[.int .i64 q.num, .int .i64 (q.den : Int)] rfl (by simp [Value.oneCell']) rfl HR3.out.1 rfl (by omega) hw3 ?_)
      intro A4 k4 w4 hown4 _ hbl4 hk41 hk42
      rw [← HNEW.out] at hown4
      have HR4 := Lib.hid (And.intro hown4 (HR3.out.2.trans hbl4))
      clear hown4 hbl4
      go_wp2
      go_roundw
      case rel => exact ⟨k + 1, A4, k4, by omega, by go_num, rfl, HR4.out.1, HR4.out.2⟩
      case measure => simp [intOf]; omega
    · obtain rfl : k = n := by omega
      have HR := Lib.hid (And.intro hown (hW2.trans (hbl.mono hwz)))
      clear hown hbl hbc2 hbS2 hbd2 hbs2 hW2
      go_wp2
      go_ret2
      refine ⟨A, cp, rfl, ?_, HR.out.2⟩
      have h := own_mono HR.out.1 hwz
      rwa [List.take_of_length_le (by unfold shapL sumsL; rw [List.length_map, addAll_length]; simp)] at h

/-- What Shapley returns, valid or not. -/
def ShR (xs : List Int) (base : Nat) (w : World) (A : Option Addr) (k c : Nat) (ec : Int) : Prop :=
  (valC xs = true ∧ ec = 0 ∧ k = plr xs ∧ w.ownsRow base 31 2 (.slice A k c) k (fcells (shapL xs (plr xs)))) ∨ (valC xs = false ∧ ec = 2 ∧ k = 0 ∧ A = none ∧ c = 0)
theorem shapley_any (A : Option Addr) (n cap : Nat) (xs : List Int) (w : World) (hl : xs.length = n) (hm : n ≤ 9223372036854775807) (h : Ints w A xs) :
    Calls Try.prog 18 #[.slice A n cap] w fun e w' => ∃ A' k c' ec, e = .returned (.tuple #[.slice A' k c', .int .i64 ec]) ∧ ShR xs w.heap.size w' A' k c' ec ∧ Below w.heap.size w w' := by
  cases hv : valC xs
  · exact (shapley_bad A n cap xs w hl hm h hv).mono fun _ _ hh => ⟨none, 0, 0, 2, hh.1, .inr ⟨hv, rfl, rfl, rfl, rfl⟩, hh.2⟩
  · exact (shapley_ok A n cap xs w hl h hv).mono fun _ _ ⟨A', c', h1, h2, h3⟩ => ⟨A', plr xs, c', 0, h1, .inl ⟨hv, rfl, rfl, h2⟩, h3⟩

/- Equality of lists, as a walk decides it. No program. -/

def eqB {α : Type} [DecidableEq α] (a b : List α) : Bool := decide (a = b)
theorem eqB_len {α : Type} [DecidableEq α] {a b : List α} (h : a.length ≠ b.length) : eqB a b = false := by
  unfold eqB; exact decide_eq_false fun e => h (by rw [e])
theorem eqB_at {α : Type} [DecidableEq α] {a b : List α} {k : Nat} {x y : α} (hx : a[k]? = some x) (hy : b[k]? = some y) (h : x ≠ y) : eqB a b = false := by
  unfold eqB; exact decide_eq_false fun e => h (by rw [e, hy] at hx; injection hx with hx; exact hx.symm)
theorem eqB_all {α : Type} [DecidableEq α] {a b : List α} {n : Nat} (ha : a.length = n) (hb : b.length = n) (h : a.take n = b.take n) : eqB a b = true := by
  unfold eqB; apply decide_eq_true
  rwa [List.take_of_length_le (by omega), List.take_of_length_le (by omega)] at h
theorem take_eq_succ {α : Type} {a b : List α} {k : Nat} {x : α} (hx : a[k]? = some x) (hy : b[k]? = some x) (h : a.take k = b.take k) : a.take (k + 1) = b.take (k + 1) := by
  rw [List.take_add_one, List.take_add_one, hx, hy, h]

/- Contracts: slices.Equal of ints and of fractions. -/

theorem fcells_at (qs : List Rat) (k : Nat) (q : Rat) (h : qs[k]? = some q) : (fcells qs)[k * 2]? = some (.int .i64 q.num) ∧ (fcells qs)[k * 2 + 1]? = some (.int .i64 (q.den : Int)) := by
  induction qs generalizing k with
  | nil => simp at h
  | cons p qs ih =>
    cases k with
    | zero => simp at h; subst h; simp [fcells]
    | succ k =>
      have := ih k (by simpa using h)
      have e1 : (k + 1) * 2 = k * 2 + 1 + 1 := by omega
      rw [e1]
      simpa [fcells] using this
/-- The slice at A reads as these fractions. -/
def Fracs (w : World) (A : Option Addr) (qs : List Rat) : Prop := At w A (fcells qs)
theorem Fracs.some_ {w : World} {A : Option Addr} {qs : List Rat} (h : Fracs w A qs) (hn : 0 < qs.length) : ∃ ad, A = some ad ∧ ad.block < w.heap.size ∧ ∀ i q, qs[i]? = some q → w.cell? (ad.add (i * 2)) = some (.int .i64 q.num) ∧ w.cell? ⟨(ad.add (i * 2)).block, (ad.add (i * 2)).off + 1, none⟩ = some (.int .i64 (q.den : Int)) := by
  have hl : 0 < (fcells qs).length := by
    cases qs with
    | nil => simp at hn
    | cons p qs => simp [fcells]
  obtain ⟨ad, e, hb, hc⟩ := At.some_ h hl
  refine ⟨ad, e, hb, fun i q hq => ?_⟩
  obtain ⟨h1, h2⟩ := fcells_at qs i q hq
  refine ⟨hc _ _ h1, ?_⟩
  have h3 := hc _ _ h2
  rw [← add_add] at h3
  exact h3
theorem Fracs.below {w w' : World} {A : Option Addr} {qs : List Rat} (h : Fracs w A qs) (hb : Below w.heap.size w w') : Fracs w' A qs := At.below h hb

/-- '==' and '!=' of two fractions. -/
def neB (p q : Rat) : Bool := decide (p ≠ q)
def eqQ (p q : Rat) : Bool := decide (p = q)
theorem rat_eq_iff (p q : Rat) : p = q ↔ p.num = q.num ∧ (p.den : Int) = (q.den : Int) :=
  ⟨by rintro rfl; exact ⟨rfl, rfl⟩, fun h => Rat.ext h.1 (by omega)⟩
theorem run_neq_frac (p q : Rat) (w : World) : (binOp .neq 31 (.agg #[.int .i64 p.num, .int .i64 (p.den : Int)]) (.agg #[.int .i64 q.num, .int .i64 (q.den : Int)])).run Try.prog w = .ok (.bool (neB p q)) w := by
  unfold neB
  have e0 : decide (p ≠ q) = !(decide (p.num = q.num) && decide ((p.den : Int) = (q.den : Int))) := by
    rw [Bool.eq_iff_iff]; simp only [ne_eq, rat_eq_iff, decide_eq_true_eq, Bool.not_eq_true', Bool.and_eq_false_iff, decide_eq_false_iff_not]
    exact Decidable.not_and_iff_not_or_not
  rw [e0]
  by_cases h1 : p.num = q.num
  · by_cases h2 : (p.den : Int) = (q.den : Int)
    · simp only [h1, h2]; go_simp
    · simp only [h1]; go_simp
  · go_simp

set_option maxHeartbeats 800000 in
theorem equalF_any (A A' : Option Addr) (n n' cap cap' : Nat) (ps qs : List Rat) (w : World) (hl : ps.length = n) (hl' : qs.length = n') (hm : n ≤ 1000000) (h : Fracs w A ps) (h' : Fracs w A' qs) :
    Calls Try.prog 29 #[.slice A n cap, .slice A' n' cap'] w fun e w' => e = .returned (.bool (eqB ps qs)) ∧ ∃ m, w' = w.drewN m := by
  by_cases hnn : n = n'
  · subst hnn
    by_cases h0 : n = 0
    · subst h0
      obtain rfl := List.eq_nil_of_length_eq_zero hl
      obtain rfl := List.eq_nil_of_length_eq_zero hl'
      go_enter Try.func29, Try.ntmps29
      go_wp2
      refine wp_loop_rounds 1 ?_
      rw [rounds_succ]
      go_wp2
      go_ret
      exact ⟨rfl, 0, rfl⟩
    · obtain ⟨ad, rfl, _, hc⟩ := h.some_ (by omega)
      obtain ⟨ad', rfl, _, hc'⟩ := h'.some_ (by omega)
      have H := Lib.hid (And.intro hl (And.intro hl' (And.intro hc hc')))
      clear hl hl' hc hc' h h'
      go_enter Try.func29, Try.ntmps29
      go_wp2
      go_loopw [13] (fun iv wr => ∃ k : Nat, k ≤ n ∧ iv = .int .i64 k ∧ ps.take k = qs.take k ∧ ∃ m, wr = w.drewN m) (fun iv _ => n - (intOf iv).toNat)
      case atStart => exact ⟨0, Nat.zero_le _, rfl, rfl, 0, rfl⟩
      case round =>
        obtain ⟨k, hk, rfl, ht, m, rfl⟩ := hrel
        have HT := Lib.hid ht
        clear ht
        obtain ⟨hl, hl', hc, hc'⟩ := H.out
        by_cases hlt : k < n
        · obtain ⟨p, hp⟩ : ∃ p, ps[k]? = some p := ⟨_, List.getElem?_eq_getElem (by omega)⟩
          obtain ⟨q, hq⟩ : ∃ q, qs[k]? = some q := ⟨_, List.getElem?_eq_getElem (by omega)⟩
          obtain ⟨c1, c2⟩ := hc k p hp
          obtain ⟨c3, c4⟩ := hc' k q hq
          have HP := Lib.hid (And.intro hp hq)
          clear hp hq hc hc' hl hl'
          by_cases he : p = q
          · subst he
            go_wp2
            go_region
            all_goals go_wp2
            go_roundw
            case rel => exact ⟨k + 1, by omega, by go_num, take_eq_succ HP.out.1 HP.out.2 HT.out, m + 1, rfl⟩
            case measure => simp [intOf]; omega
          · have HNE := Lib.hid he
            have hne : ∀ w, (binOp .neq 31 (.agg #[.int .i64 p.num, .int .i64 (p.den : Int)]) (.agg #[.int .i64 q.num, .int .i64 (q.den : Int)])).run Try.prog w = .ok (.bool true) w := fun w => by
              rw [run_neq_frac]; unfold neB; simp [he]
            clear he
            go_wp2
            go_region
            all_goals go_wp2
            go_ret
            exact ⟨ret_bool (eqB_at HP.out.1 HP.out.2 HNE.out).symm, m + 1, rfl⟩
        · obtain rfl : k = n := by omega
          have HF : Hid (eqB ps qs = true) := Lib.hid (eqB_all hl hl' HT.out)
          clear hl hl' hc hc'
          go_wp2
          go_ret
          exact ⟨ret_bool HF.out.symm, m, rfl⟩
  · have HF : Hid (eqB ps qs = false) := Lib.hid (eqB_len (by omega))
    have hne : ((n : Int) != (n' : Int)) = true := by rw [bne_iff_ne]; omega
    clear hl hl' h h'
    go_enter Try.func29, Try.ntmps29
    go_wp2
    go_ret
    exact ⟨ret_bool HF.out.symm, 0, rfl⟩

/- Bounds of sums of small fractions: plain Lean. -/

def DQ : Nat → Int
  | 0 => 1
  | k + 1 => DQ k * 24
def MQ : Nat → Int
  | 0 => 0
  | k + 1 => MQ k * 24 + 100000 * DQ k
/-- A sum of k small fractions. -/
def capQ (k : Nat) (p : Rat) : Prop := (p.den : Int) ≤ DQ k ∧ -MQ k ≤ p.num ∧ p.num ≤ MQ k
theorem DQ_pos (k : Nat) : 1 ≤ DQ k := by
  induction k with
  | zero => decide
  | succ k ih => simp only [DQ]; omega
theorem MQ_nonneg (k : Nat) : 0 ≤ MQ k := by
  induction k with
  | zero => decide
  | succ k ih => have := DQ_pos k; simp only [MQ]; omega
theorem cap_zero : capQ 0 0 := by unfold capQ; decide
theorem cap_keep {k : Nat} {p : Rat} (h : capQ k p) : capQ (k + 1) p := by
  obtain ⟨h1, h2, h3⟩ := h
  have := DQ_pos k
  have := MQ_nonneg k
  refine ⟨?_, ?_, ?_⟩ <;> simp only [DQ, MQ] <;> omega
theorem prod_bds {k : Nat} {p q : Rat} (h : capQ k p) (hq : smallQ q) : -(MQ k * 24) ≤ p.num * q.den ∧ p.num * q.den ≤ MQ k * 24 ∧ -(100000 * DQ k) ≤ q.num * p.den ∧ q.num * p.den ≤ 100000 * DQ k ∧ (p.den : Int) * q.den ≤ DQ k * 24 := by
  obtain ⟨h1, h2, h3⟩ := h
  obtain ⟨g1, g2, g3⟩ := hq
  have dp := den_pos p
  have dq := den_pos q
  have a1 := mul_bd h2 h3 (by omega) g1
  have a2 := mul_bd g2 g3 (by omega) h1
  have a3 := mul_bd (m := DQ k) (by omega) h1 (by omega) g1
  exact ⟨a1.1, a1.2, a2.1, a2.2, a3.2⟩
theorem cap_add {k : Nat} {p q : Rat} (h : capQ k p) (hq : smallQ q) : capQ (k + 1) (p + q) := by
  obtain ⟨a1, a2, a3, a4, a5⟩ := prod_bds h hq
  have hd : 0 < (p.den : Int) * q.den := Int.mul_pos (den_pos p) (den_pos q)
  rw [capQ, ← add_divInt]
  have b1 := divInt_bd (a := p.num * q.den + q.num * p.den) hd (m := MQ k * 24 + 100000 * DQ k) (by omega) (by omega)
  have b2 := divInt_den_le (a := p.num * q.den + q.num * p.den) hd
  exact ⟨by simp only [DQ]; omega, b1.1, b1.2⟩
theorem prod_bds_small {p q : Rat} (hp : smallQ p) (hq : smallQ q) : -4000000000000000000 ≤ p.num * q.den ∧ p.num * q.den ≤ 4000000000000000000 ∧ -4000000000000000000 ≤ q.num * p.den ∧ q.num * p.den ≤ 4000000000000000000 ∧ (p.den : Int) * q.den ≤ 4000000000000000000 := by
  have h1 : capQ 1 p := ⟨hp.1, hp.2.1, hp.2.2⟩
  have := prod_bds h1 hq
  have e1 : MQ 1 = 100000 := rfl
  have e2 : DQ 1 = 24 := rfl
  rw [e1, e2] at this
  omega
theorem DQ_le {k : Nat} (h : k ≤ 4) : DQ k ≤ 331776 ∧ MQ k ≤ 5529600000 := by
  match k, h with
  | 0, _ => decide
  | 1, _ => decide
  | 2, _ => decide
  | 3, _ => decide
  | 4, _ => decide
theorem cap_pays {qs : List Rat} (h : ∀ q ∈ qs, smallQ q) (set k : Nat) (hk : k ≤ qs.length) : capQ k (paysTo qs set k) := by
  induction k with
  | zero => exact cap_zero
  | succ k ih =>
    have h1 := ih (by omega)
    rw [paysTo_succ]
    split
    · have : qs.getD k 0 = qs[k] := by rw [List.getD_eq_getElem?_getD, List.getElem?_eq_getElem (by omega)]; rfl
      rw [this]
      exact cap_add h1 (h _ (List.getElem_mem _))
    · exact cap_keep h1

/- Pairs of numbers that may be fractions, and sums of payments times a number: plain Lean. -/

/-- The cells of a row of pairs. -/
def pcells (ps : List (Int × Int)) : List Value := ps.flatMap fun p => [.int .i64 p.1, .int .i64 p.2]
def pr (q : Rat) : Int × Int := (q.num, (q.den : Int))
theorem pcells_fr (qs : List Rat) : pcells (qs.map pr) = fcells qs := by
  induction qs with
  | nil => rfl
  | cons q qs ih => simp only [pcells, fcells, List.map_cons, List.flatMap_cons] at ih ⊢; rw [ih]; rfl
theorem pcells_length (ps : List (Int × Int)) : (pcells ps).length = ps.length * 2 := by
  induction ps with
  | nil => rfl
  | cons p ps ih => simp only [pcells, List.flatMap_cons, List.length_append, List.length_cons, List.length_nil] at ih ⊢; omega
theorem pcells_at (ps : List (Int × Int)) (k : Nat) (p : Int × Int) (h : ps[k]? = some p) : (pcells ps)[k * 2]? = some (.int .i64 p.1) ∧ (pcells ps)[k * 2 + 1]? = some (.int .i64 p.2) := by
  induction ps generalizing k with
  | nil => simp at h
  | cons p' ps ih =>
    cases k with
    | zero => simp at h; subst h; simp [pcells]
    | succ k =>
      have := ih k (by simpa using h)
      have e1 : (k + 1) * 2 = k * 2 + 1 + 1 := by omega
      rw [e1]
      simpa [pcells] using this
theorem pcells_take (ps : List (Int × Int)) (k : Nat) : pcells (ps.take k) = (pcells ps).take (k * 2) := by
  induction ps generalizing k with
  | nil => simp [pcells]
  | cons p ps ih =>
    cases k with
    | zero => simp [pcells]
    | succ k =>
      have e1 : (k + 1) * 2 = k * 2 + 1 + 1 := by omega
      rw [List.take_succ_cons, e1]
      have := ih k
      simp only [pcells, List.flatMap_cons] at this ⊢
      rw [this]
      simp
theorem pcells_one (ps : List (Int × Int)) : ∀ u ∈ pcells ps, u.oneCell' = true := by
  intro u hu
  simp only [pcells, List.mem_flatMap] at hu
  obtain ⟨p, _, hu⟩ := hu
  simp only [List.mem_cons, List.not_mem_nil, or_false] at hu
  rcases hu with rfl | rfl <;> rfl
/-- The slice at A reads as these pairs. -/
def Prs (w : World) (A : Option Addr) (ps : List (Int × Int)) : Prop := At w A (pcells ps)
theorem Prs.some_ {w : World} {A : Option Addr} {ps : List (Int × Int)} (h : Prs w A ps) (hn : 0 < ps.length) : ∃ ad, A = some ad ∧ ad.block < w.heap.size ∧ ∀ i p, ps[i]? = some p → w.cell? (ad.add (i * 2)) = some (.int .i64 p.1) ∧ w.cell? ⟨(ad.add (i * 2)).block, (ad.add (i * 2)).off + 1, none⟩ = some (.int .i64 p.2) := by
  obtain ⟨ad, e, hb, hc⟩ := At.some_ h (by rw [pcells_length]; omega)
  refine ⟨ad, e, hb, fun i p hp => ?_⟩
  obtain ⟨h1, h2⟩ := pcells_at ps i p hp
  refine ⟨hc _ _ h1, ?_⟩
  have h3 := hc _ _ h2
  rw [← add_add] at h3
  exact h3
theorem Prs.below {w w' : World} {A : Option Addr} {ps : List (Int × Int)} (h : Prs w A ps) (hb : Below w.heap.size w w') : Prs w' A ps := At.below h hb
theorem Prs.take {w : World} {A : Option Addr} {ps : List (Int × Int)} (h : Prs w A ps) (k : Nat) : Prs w A (ps.take k) := by
  intro i v hv
  refine h i v ?_
  rw [pcells_take, List.getElem?_take] at hv
  split at hv
  · exact hv
  · cases hv
theorem Prs.fracs {w : World} {A : Option Addr} {qs : List Rat} (h : Prs w A (qs.map pr)) : Fracs w A qs := by unfold Prs at h; rwa [pcells_fr] at h
theorem Fracs.prs {w : World} {A : Option Addr} {qs : List Rat} (h : Fracs w A qs) : Prs w A (qs.map pr) := by unfold Prs; rwa [pcells_fr]

/-- In lowest terms, with a Den up to M, and not too great. -/
def scB (M a b : Int) : Bool := decide (1 ≤ b) && decide (b ≤ M) && decide (a ≤ 100000) && decide (-100000 ≤ a) && ((Int.gcd a b : Int) == 1)
theorem scB_iff {M a b : Int} : scB M a b = true ↔ 1 ≤ b ∧ b ≤ M ∧ a ≤ 100000 ∧ -100000 ≤ a ∧ Int.gcd a b = 1 := by
  simp only [scB, Bool.and_eq_true, decide_eq_true_eq, beq_iff_eq, and_assoc]
  constructor
  · rintro ⟨h1, h2, h3, h4, h5⟩; exact ⟨h1, h2, h3, h4, by omega⟩
  · rintro ⟨h1, h2, h3, h4, h5⟩; exact ⟨h1, h2, h3, h4, by omega⟩
theorem scB_rat {M a b : Int} (h : scB M a b = true) : ∃ q : Rat, q.num = a ∧ (q.den : Int) = b := by
  obtain ⟨h1, _, _, _, h5⟩ := scB_iff.1 h
  exact lowest_rat (by omega) h5
theorem scB_small {a b : Int} (h : scB 24 a b = true) : ∃ q : Rat, (a, b) = pr q ∧ smallQ q := by
  obtain ⟨q, rfl, rfl⟩ := scB_rat h
  obtain ⟨_, h2, h3, h4, _⟩ := scB_iff.1 h
  exact ⟨q, rfl, h2, h4, h3⟩
theorem small_scB {q : Rat} (h : smallQ q) : scB 24 q.num q.den = true := scB_iff.2 ⟨by have := den_pos q; omega, h.1, h.2.2, h.2.1, rat_lowest q⟩
/-- Payments of n players. -/
def payB (n : Nat) (ps : List (Int × Int)) : Bool := ps.all (fun p => scB 24 p.1 p.2) && decide (ps.length = n)
theorem payB_rats {n : Nat} {ps : List (Int × Int)} (h : payB n ps = true) : ∃ qs : List Rat, ps = qs.map pr ∧ qs.length = n ∧ ∀ q ∈ qs, smallQ q := by
  unfold payB at h
  rw [Bool.and_eq_true, decide_eq_true_eq, List.all_eq_true] at h
  obtain ⟨h, hl⟩ := h
  suffices ∃ qs : List Rat, ps = qs.map pr ∧ ∀ q ∈ qs, smallQ q by
    obtain ⟨qs, h1, h2⟩ := this
    exact ⟨qs, h1, by rw [← hl, h1, List.length_map], h2⟩
  clear hl
  induction ps with
  | nil => exact ⟨[], rfl, by simp⟩
  | cons p ps ih =>
    obtain ⟨qs, h1, h2⟩ := ih fun x hx => h x (by simp [hx])
    obtain ⟨q, h3, h4⟩ := scB_small (h p (by simp))
    refine ⟨q :: qs, ?_, ?_⟩
    · rw [List.map_cons, ← h1, ← h3]
    · intro x hx
      rcases List.mem_cons.1 hx with rfl | hx
      · exact h4
      · exact h2 x hx
theorem payB_of {n : Nat} {qs : List Rat} (hl : qs.length = n) (h : ∀ q ∈ qs, smallQ q) : payB n (qs.map pr) = true := by
  unfold payB
  rw [Bool.and_eq_true, decide_eq_true_eq, List.all_eq_true]
  refine ⟨fun p hp => ?_, by rw [List.length_map, hl]⟩
  obtain ⟨q, hq, rfl⟩ := List.mem_map.1 hp
  exact small_scB (h q hq)

/-- A pair times D. -/
def scN (D : Int) (p : Int × Int) : Int := p.1 * (D / p.2)
/-- What the set s pays of the first k, times D. -/
def payT (ns : List Int) : Nat → Nat → Int
  | 0, _ => 0
  | k + 1, s => payT ns k s + ns.getD k 0 * (if s.testBit k then 1 else 0)
def payRow (ns : List Int) (k N : Nat) : List Int := (List.range N).map (payT ns k)
def payMix (ns : List Int) (k j N : Nat) : List Int := (List.range N).map fun s => if s < j then payT ns (k + 1) s else payT ns k s
theorem payRow_length (ns : List Int) (k N : Nat) : (payRow ns k N).length = N := by simp [payRow]
theorem payMix_length (ns : List Int) (k j N : Nat) : (payMix ns k j N).length = N := by simp [payMix]
theorem payRow_get {ns : List Int} {k N s : Nat} (h : s < N) : (payRow ns k N)[s]? = some (payT ns k s) := by simp [payRow, h]
theorem payRow_zero (ns : List Int) (N : Nat) : payRow ns 0 N = List.replicate N 0 := by
  apply List.ext_getElem?
  intro i
  simp only [payRow, List.getElem?_map, List.getElem?_replicate]
  by_cases h : i < N <;> simp [h, payT]
theorem payMix_zero (ns : List Int) (k N : Nat) : payMix ns k 0 N = payRow ns k N := by simp [payMix, payRow]
theorem payMix_full (ns : List Int) (k N : Nat) : payMix ns k N N = payRow ns (k + 1) N := by
  unfold payMix payRow
  apply List.map_congr_left
  intro s hs
  rw [List.mem_range] at hs
  rw [if_pos hs]
theorem payMix_get {ns : List Int} {k j N : Nat} (h : j < N) : (payMix ns k j N)[j]? = some (payT ns k j) := by simp [payMix, h]
theorem payMix_succ {ns : List Int} {k j N : Nat} (h : j < N) : payMix ns k (j + 1) N = (payMix ns k j N).set j (payT ns (k + 1) j) := by
  apply List.ext_getElem?
  intro i
  rw [List.getElem?_set]
  by_cases hij : j = i
  · subst hij
    rw [if_pos rfl, if_pos (by rw [payMix_length]; exact h)]
    simp [payMix, h]
  · rw [if_neg hij]
    simp only [payMix, List.getElem?_map]
    by_cases hi : i < N
    · simp only [List.getElem?_range hi, Option.map_some]
      congr 1
      by_cases h1 : i < j
      · rw [if_pos h1, if_pos (by omega)]
      · rw [if_neg h1, if_neg (by omega)]
    · simp [hi]
theorem payT_bd {ns : List Int} {m : Int} (h : ∀ x ∈ ns, -m ≤ x ∧ x ≤ m) (hm : 0 ≤ m) (k s : Nat) : -(m * k) ≤ payT ns k s ∧ payT ns k s ≤ m * k := by
  induction k with
  | zero => simp [payT]
  | succ k ih =>
    have h1 := getD_bd h hm k
    have e : m * ((k + 1 : Nat) : Int) = m * k + m := by rw [Int.natCast_add, Int.mul_add]; omega
    rw [e]
    simp only [payT]
    split <;> omega
/-- payDen. -/
def PD : Int := 5354228880
theorem PD_eq : (5354228880 : Int) = PD := rfl
theorem PD_dvd {b : Int} (h1 : 1 ≤ b) (h2 : b ≤ 24) : b ∣ PD := by
  obtain ⟨n, rfl⟩ := Int.eq_ofNat_of_zero_le (show 0 ≤ b by omega)
  have h : ∀ n : Nat, n < 25 → 1 ≤ n → (n : Int) ∣ PD := by decide +kernel
  exact h n (by omega) (by omega)
theorem scN_rat {q : Rat} {D : Int} (h : (q.den : Int) ∣ D) : ((scN D (pr q) : Int) : Rat) = (D : Rat) * q := by
  obtain ⟨k, hk⟩ := h
  have hd := den_pos q
  have e : D / (q.den : Int) = k := by rw [hk, Int.mul_ediv_cancel_left _ (by omega)]
  have h0 : ((q.den : Int) : Rat) ≠ 0 := by
    intro h
    have : (q.den : Int) = 0 := by exact_mod_cast h
    omega
  show ((q.num * (D / (q.den : Int)) : Int) : Rat) = _
  rw [e, hk, Rat.intCast_mul, Rat.intCast_mul]
  have hq : q = (q.num : Rat) / ((q.den : Int) : Rat) := by
    conv => lhs; rw [← Rat.num_divInt_den q]
    rw [Rat.divInt_eq_div]
  have aux : ∀ (x n d : Rat), d ≠ 0 → x = n / d → d * x = n := by
    intro x n d h0 h
    rw [h, Rat.mul_comm, Rat.div_mul_cancel h0]
  have := aux q _ _ h0 hq
  rw [Rat.mul_comm ((q.den : Int) : Rat), Rat.mul_assoc, this, Rat.mul_comm]
theorem payT_rat {qs : List Rat} {D : Int} (h : ∀ q ∈ qs, (q.den : Int) ∣ D) (s k : Nat) (hk : k ≤ qs.length) : ((payT ((qs.map pr).map (scN D)) k s : Int) : Rat) = (D : Rat) * paysTo qs s k := by
  induction k with
  | zero => simp [payT, paysTo]
  | succ k ih =>
    have hq : qs[k]? = some qs[k] := List.getElem?_eq_getElem (by omega)
    have e1 : ((qs.map pr).map (scN D)).getD k 0 = scN D (pr qs[k]) := by rw [List.getD_eq_getElem?_getD]; simp [hq]
    have e2 : qs.getD k 0 = qs[k] := by rw [List.getD_eq_getElem?_getD, hq]; rfl
    rw [payT, paysTo_succ, e1, e2, Rat.intCast_add, ih (by omega)]
    split
    · rw [Int.mul_one, scN_rat (h _ (List.getElem_mem _)), Rat.mul_add]
    · rw [Int.mul_zero]; show _ + ((0 : Int) : Rat) = _; rw [Rat.intCast_zero, Rat.add_zero]
theorem PD_pos : (0 : Rat) < (PD : Rat) := by decide +kernel
theorem scN_bd {D a b : Int} (h : scB 24 a b = true) (hD : 0 ≤ D) : -(100000 * D) ≤ scN D (a, b) ∧ scN D (a, b) ≤ 100000 * D ∧ 0 ≤ D / b ∧ D / b ≤ D := by
  obtain ⟨h1, h2, h3, h4, _⟩ := scB_iff.1 h
  have e1 : D / b ≤ D := Int.ediv_le_self _ hD
  have e2 : 0 ≤ D / b := Int.ediv_nonneg hD (by omega)
  have := mul_bd (m := 100000) (by omega) h3 e2 e1
  exact ⟨this.1, this.2, e2, e1⟩

/- Contract: scaled of package games. -/

set_option maxHeartbeats 1600000 in
theorem scaled_no (a b D M : Int) (w : World) (_ : 0 ≤ M ∧ M ≤ 100) (ha : -9223372036854775808 ≤ a ∧ a ≤ 9223372036854775807) (hb : -9223372036854775808 ≤ b ∧ b ≤ 9223372036854775807) (h : scB M a b = false) :
    Calls Try.prog 71 #[.agg #[.int .i64 a, .int .i64 b], .int .i64 D, .int .i64 M] w fun e w' => e = .returned (.tuple #[.int .i64 0, .bool false]) ∧ Below w.heap.size w w' := by
  have HS := Lib.hid h
  clear h
  by_cases h1 : b < 1
  · go_enter Try.func71, Try.ntmps71
    go_wp2_with fail
    go_ret2
    exact ⟨rfl, (Below.refl _ _).alloc (Nat.le_refl _) _⟩
  · by_cases h2 : M < b
    · go_enter Try.func71, Try.ntmps71
      go_wp2_with fail
      go_ret2
      exact ⟨rfl, (Below.refl _ _).alloc (Nat.le_refl _) _⟩
    · by_cases h3 : 100000 < a
      · go_enter Try.func71, Try.ntmps71
        go_wp2_with fail
        go_ret2
        exact ⟨rfl, (Below.refl _ _).alloc (Nat.le_refl _) _⟩
      · by_cases h4 : a < -100000
        · go_enter Try.func71, Try.ntmps71
          go_wp2_with fail
          go_ret2
          exact ⟨rfl, (Below.refl _ _).alloc (Nat.le_refl _) _⟩
        · have hg : ((Int.gcd a b : Int) != 1) = true := by
            rw [bne_iff_ne]
            intro hg
            have := HS.out
            rw [scB_iff.2 ⟨by omega, by omega, by omega, by omega, by omega⟩] at this
            cases this
          go_enter Try.func71, Try.ntmps71
          go_wp2_with fail
          refine (ggcd_any a b _ (by omega) (by omega) (by omega) (by omega)).mono ?_
          rintro e w' ⟨rfl, n, rfl⟩
          go_wp2_with fail
          go_ret2
          exact ⟨rfl, below_drewN ((Below.refl _ _).alloc (Nat.le_refl _) _) _⟩

set_option maxHeartbeats 1600000 in
theorem scaled_yes (a b D M : Int) (w : World) (hM : 0 ≤ M ∧ M ≤ 24) (hD : 0 ≤ D ∧ D ≤ 5354228880) (h : scB M a b = true) :
    Calls Try.prog 71 #[.agg #[.int .i64 a, .int .i64 b], .int .i64 D, .int .i64 M] w fun e w' => e = .returned (.tuple #[.int .i64 (scN D (a, b)), .bool true]) ∧ Below w.heap.size w w' := by
  obtain ⟨h1, h2, h3, h4, hg⟩ := scB_iff.1 h
  have hg' : ((Int.gcd a b : Int) != 1) = false := by rw [hg]; rfl
  have hbd := scN_bd (D := D) (a := a) (b := b) (scB_iff.2 ⟨h1, by omega, h3, h4, hg⟩) hD.1
  have hk : Int.tdiv D b = D / b := Int.tdiv_eq_ediv_of_nonneg hD.1
  obtain ⟨k, hk2⟩ : ∃ k, k = D / b := ⟨_, rfl⟩
  have hsc : scN D (a, b) = a * k := by rw [hk2]; rfl
  rw [hsc] at hbd ⊢
  rw [← hk2] at hk hbd
  have e1 : IntKind.i64.wrap (a * k) = a * k := IntWalk.i64_in _ (by omega)
  have e2 : IntKind.i64.wrap k = k := IntWalk.i64_in _ (by omega)
  have HK2 := Lib.hid (And.intro hk2 hsc)
  clear hk2 hsc h hg
  go_enter Try.func71, Try.ntmps71
  go_wp2_with fail
  refine (ggcd_any a b _ (by omega) (by omega) (by omega) (by omega)).mono ?_
  rintro e w' ⟨rfl, n, rfl⟩
  go_wp2_with fail
  go_quiet (fail)
  go_wp2_with fail
  go_ret2
  exact ⟨rfl, below_drewN (below_drewN ((Below.refl _ _).alloc (Nat.le_refl _) _) _) _⟩

/- Contracts: the copy of the beginning of a slice of fractions, and Payments of package corrodyref07. -/

set_option maxHeartbeats 400000 in
theorem cloneF_any (A : Option Addr) (n cap : Nat) (ps : List (Int × Int)) (w : World) (hl : ps.length = n) (hm : n ≤ 1000000000) (h : Prs w A ps) :
    Calls Try.prog 69 #[.slice A n cap] w fun e w' => ∃ A' c, e = .returned (.slice A' n c) ∧ w'.ownsRow w.heap.size 31 2 (.slice A' n c) n (pcells ps) ∧ Below w.heap.size w w' := by
  have qT : ∀ (w : World) (a : Option Addr) (n c n' c' : Nat), (binOp .eql 23 (.slice a n c) (.slice none n' c')).run Try.prog w = .ok (.bool a.isNone) w := fun w a n c n' c' => Lib.run_eql_slice_nil w _ _ a n c n' c' Try.underlying23
  obtain ⟨i0, hi, hz0, hz1, hz2⟩ := info_parts info_frac
  rcases A with _ | ad
  · have h0 : ps = [] := by
      cases ps with
      | nil => rfl
      | cons p l => obtain ⟨ad, e, _⟩ := h 0 (.int .i64 p.1) rfl; cases e
    subst h0
    obtain rfl : n = 0 := by simpa using hl.symm
    clear h hl
    go_enter Try.func69, Try.ntmps69
    go_wp2
    go_ret
    exact ⟨none, 0, rfl, World.ownsRow_nil _ _ _ _, Below.refl _ _⟩
  · have HL := Lib.hid (And.intro hl (pcells_length ps))
    have HC := Lib.hid (At.some2 h)
    clear hl h
    go_enter Try.func69, Try.ntmps69
    go_wp2_with (at_builtin; refine wpList_append_own _ rfl _ _ 23 rfl w.heap.size 31 i0 (.agg #[.int .i64 0, .int .i64 0]) 2 16 Try.underlying23 hi hz0 hz1 hz2 rfl (by decide) _ 0 [] rfl (World.ownsRow_made w #[] 0 (Nat.le_refl _) (by decide) rfl) ad n cap (pcells ps) rfl ?c1 ?c2 ?c3 ?c4 ?c5 ?c6 ?_)
    case c1 => have := HL.out; omega
    case c2 => exact At.new HC.out
    case c3 => exact pcells_one ps
    case c4 => unfold maxLen; omega
    case c5 => omega
    case c6 => go_size
    intro v' w1 hown hgrow _
    obtain ⟨A', c, rfl, _⟩ := own_form hown
    go_wp2
    go_ret
    refine ⟨A', c, by simp, by simpa using hown, ?_⟩
    exact (((Below.refl _ _).alloc (Nat.le_refl _) _)).grown hgrow (by go_size) (by intro k hk; simp [Value.ownBlock] at hk; omega)

set_option maxHeartbeats 400000 in
theorem lfracs_any (A : Option Addr) (n cap : Nat) (ps : List (Int × Int)) (w : World) (hl : ps.length = n) (hc : n ≤ cap) (hm : cap ≤ 9223372036854775807) (h : Prs w A ps) :
    Calls Try.prog 38 #[.slice A n cap] w fun e w' => ∃ A' c, e = .returned (.slice A' (min n 6) c) ∧ w'.ownsRow w.heap.size 31 2 (.slice A' (min n 6) c) (min n 6) (pcells (ps.take 6)) ∧ Below w.heap.size w w' := by
  have hk := h.take 6
  have hl' : (ps.take 6).length = min n 6 := by rw [List.length_take, hl]; omega
  have HK := Lib.hid hk
  have HL := Lib.hid hl'
  clear hk h hl hl'
  by_cases h0 : n ≤ 6
  · have e0 : min n 6 = n := by omega
    rw [e0]
    have HE := Lib.hid e0
    clear e0
    go_enter Try.func38, Try.ntmps38
    go_wp2_with fail
    refine (cloneF_any A n cap (ps.take 6) _ (by rw [HL.out, HE.out]) (by omega) HK.out).mono ?_
    rintro e w' ⟨A', c, rfl, hown, hb⟩
    have HO := Lib.hid hown
    have HB := Lib.hid hb
    clear hown hb
    go_wp2
    go_ret
    exact ⟨A', c, rfl, HO.out, HB.out⟩
  · have e0 : min n 6 = 6 := by omega
    rw [e0]
    have HE := Lib.hid e0
    clear e0
    go_enter Try.func38, Try.ntmps38
    go_wp2_with fail
    refine (cloneF_any A 6 cap (ps.take 6) _ (by rw [HL.out, HE.out]) (by omega) HK.out).mono ?_
    rintro e w' ⟨A', c, rfl, hown, hb⟩
    have HO := Lib.hid hown
    have HB := Lib.hid hb
    clear hown hb
    go_wp2
    go_ret
    exact ⟨A', c, rfl, HO.out, HB.out⟩

theorem payB_elem {n k : Nat} {ps : List (Int × Int)} {p : Int × Int} (h : ps[k]? = some p) (hb : scB 24 p.1 p.2 = false) : payB n ps = false := by
  unfold payB
  have : ps.all (fun p => scB 24 p.1 p.2) = false := by
    rw [List.all_eq_false]
    exact ⟨p, List.mem_of_getElem? h, by simp [hb]⟩
  rw [this, Bool.false_and]
theorem takeP_succ {ps : List (Int × Int)} {k : Nat} {x : Int × Int} (h : ps[k]? = some x) : ps.take (k + 1) = ps.take k ++ [x] := by
  rw [List.take_add_one, h]; rfl
theorem allP_succ {ps : List (Int × Int)} {k : Nat} {p : Int × Int} (h : ps[k]? = some p) (ha : (ps.take k).all (fun p => scB 24 p.1 p.2) = true) (hp : scB 24 p.1 p.2 = true) : (ps.take (k + 1)).all (fun p => scB 24 p.1 p.2) = true := by
  rw [takeP_succ h, List.all_append, ha]; simp [hp]
theorem payB_all {n m : Nat} {ps : List (Int × Int)} (hl : ps.length = m) (ha : (ps.take m).all (fun p => scB 24 p.1 p.2) = true) : payB n ps = decide (m = n) := by
  unfold payB
  rw [List.take_of_length_le (by omega)] at ha
  rw [ha, hl, Bool.true_and]
theorem low_of_sc {a b : Int} (h : scB 24 a b = true) : lowB a b = true := by
  obtain ⟨h1, _, _, h4, h5⟩ := scB_iff.1 h
  simp only [lowB, h5, Bool.and_eq_true, decide_eq_true_eq]
  exact ⟨⟨by omega, by omega⟩, rfl⟩
theorem sc_of_low {a b : Int} (h : lowB a b = true) (h1 : b ≤ 24) (h2 : -100000 ≤ a) (h3 : a ≤ 100000) : scB 24 a b = true := by
  simp only [lowB, Bool.and_eq_true, decide_eq_true_eq, beq_iff_eq] at h
  exact scB_iff.2 ⟨h.1.1, h1, h3, h2, by omega⟩

set_option maxRecDepth 100000 in
set_option maxHeartbeats 1600000 in
theorem rpayments_any (A : Option Addr) (m cap n : Nat) (ps : List (Int × Int)) (w : World) (hl : ps.length = m) (hm : m ≤ 9223372036854775807) (_ : n ≤ 4) (h : Prs w A ps)
    (hr : ∀ p ∈ ps, (-9223372036854775808 ≤ p.1 ∧ p.1 ≤ 9223372036854775807) ∧ -9223372036854775808 ≤ p.2 ∧ p.2 ≤ 9223372036854775807) :
    Calls Try.prog 39 #[.int .i64 n, .slice A m cap] w fun e w' => e = .returned (.bool (payB n ps)) ∧ Below w.heap.size w w' := by
  have hI := fun (hp : 0 < ps.length) => h.some_ hp
  have H := Lib.hid (And.intro hl (And.intro hI hr))
  clear hl h hI hr
  go_enter Try.func39, Try.ntmps39
  go_wp2_with fail
  go_loopw [9] (fun iv wr => ∃ k : Nat, k ≤ m ∧ iv = .int .i64 k ∧ (ps.take k).all (fun p => scB 24 p.1 p.2) = true ∧ Below w.heap.size w wr) (fun iv _ => m - (intOf iv).toNat)
  case atStart => exact ⟨0, Nat.zero_le _, rfl, by simp, Below.refl _ _⟩
  case round =>
    obtain ⟨k, hk, rfl, ha, hbl⟩ := hrel
    have HA := Lib.hid (And.intro ha hbl)
    have hws := hbl.size
    clear ha
    by_cases hlt : k < m
    · obtain ⟨hl, hI, hr⟩ := H.out
      obtain ⟨ad, rfl, _, hc⟩ := hI (by omega)
      obtain ⟨p, hp⟩ : ∃ p, ps[k]? = some p := ⟨_, List.getElem?_eq_getElem (by omega)⟩
      obtain ⟨g1, g2⟩ := hc k p hp
      have c1 := (hbl.cell (lt_of_cell g1)).trans g1
      have c2 := (hbl.cell (lt_of_cell g2)).trans g2
      obtain ⟨hr1, hr2⟩ := hr p (List.mem_of_getElem? hp)
      obtain ⟨a, b⟩ := p
      have HP := Lib.hid hp
      simp only at c1 c2 hr1 hr2
      clear hl hI hc hp hr g1 g2 hbl
      have fin : ∀ (x : World), scB 24 a b = false → Below w.heap.size w x → Hid (payB n ps = false) := fun x hs _ => Lib.hid (payB_elem HP.out hs)
      have HFIN := Lib.hid fin
      clear fin
      go_wp2_with fail
      refine (rlowest_any a b _ (by omega) (by omega) (by omega)).mono ?_
      rintro e w1 ⟨rfl, hb1⟩
      have hB1 : Blk w1 wr.heap.size 31 #[.int .i64 a, .int .i64 b] := (Blk.new _ _ _ rfl).below hb1 (by go_size)
      obtain ⟨s1, s2, _, _⟩ := hB1.at2
      have hbw : Below w.heap.size w w1 := (HA.out.2.alloc hws _).trans (hb1.mono (by simp; omega))
      have HB := Lib.hid hbw
      clear hB1 hb1 hbw
      cases hlow : lowB a b
      · have hs : scB 24 a b = false := by
          rw [← Bool.not_eq_true]
          intro h
          rw [low_of_sc h] at hlow
          cases hlow
        have HF := HFIN.out w1 hs HB.out
        clear hs hlow
        go_wp2_with fail
        go_ret
        exact ⟨ret_bool HF.out.symm, HB.out⟩
      · by_cases h1 : 24 < b
        · have hs : scB 24 a b = false := by
            rw [← Bool.not_eq_true]
            intro h
            have := scB_iff.1 h
            omega
          have HF := HFIN.out w1 hs HB.out
          clear hs hlow
          go_wp2_with fail
          go_ret
          exact ⟨ret_bool HF.out.symm, HB.out⟩
        · by_cases h2 : a < -100000
          · have hs : scB 24 a b = false := by
              rw [← Bool.not_eq_true]
              intro h
              have := scB_iff.1 h
              omega
            have HF := HFIN.out w1 hs HB.out
            clear hs hlow
            go_wp2_with fail
            go_ret
            exact ⟨ret_bool HF.out.symm, HB.out⟩
          · by_cases h3 : 100000 < a
            · have hs : scB 24 a b = false := by
                rw [← Bool.not_eq_true]
                intro h
                have := scB_iff.1 h
                omega
              have HF := HFIN.out w1 hs HB.out
              clear hs hlow
              go_wp2_with fail
              go_ret
              exact ⟨ret_bool HF.out.symm, HB.out⟩
            · have HS := Lib.hid (allP_succ HP.out HA.out.1 (sc_of_low hlow (by omega) (by omega) (by omega)))
              clear hlow
              go_wp2_with fail
              go_roundw
              case rel => exact ⟨k + 1, by omega, by go_num, HS.out, HB.out⟩
              case measure => simp [intOf]; omega
    · obtain rfl : m = k := by omega
      have HR : Hid (payB n ps = decide (m = n)) := Lib.hid (payB_all H.out.1 HA.out.1)
      by_cases hkn : m = n
      · have hd : ((m : Int) == (n : Int)) = true := by simp [hkn]
        have HK := Lib.hid hkn
        clear hkn hbl
        go_wp2_with fail
        go_ret
        exact ⟨ret_bool (by rw [HR.out]; simp [HK.out]), HA.out.2⟩
      · have hd : ((m : Int) == (n : Int)) = false := by simp; omega
        clear hbl
        go_wp2_with fail
        go_ret
        exact ⟨ret_bool (by rw [HR.out]; simp [hkn]), HA.out.2⟩
end Go.Proofs.Ytbidboagaoifaaa
