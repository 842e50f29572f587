/- Contract: Few of package corrodylaw01. -/
import Derived.Test.YtkljambjdiblkaaSList
import Derived.Test.YtkljambjdiblkaaSMat
namespace Go.Proofs.Ytkljambjdiblkaa
open Go.RowKit

/-- What Few returns. -/
def fewV (V : List (List Int)) : List (List Int) := (V.take 6).map (·.take 9)
theorem fewV_on {V : List (List Int)} {k : Nat} {r : List Int} (h : V[k]? = some r) (hk : k < 6) : fewV (V.take (k + 1)) = fewV (V.take k) ++ [r.take 9] := by
  have hkl : k < V.length := (List.getElem?_eq_some_iff.1 h).1
  unfold fewV
  rw [List.take_take, List.take_take, Nat.min_eq_right (by omega), Nat.min_eq_right (by omega), List.take_add_one, h]
  simp
theorem fewV_off {V : List (List Int)} {k : Nat} (hk : 6 ≤ k) : fewV (V.take (k + 1)) = fewV (V.take k) := by
  unfold fewV
  rw [List.take_take, List.take_take, Nat.min_eq_left (by omega), Nat.min_eq_left (by omega)]
theorem fewV_length (V : List (List Int)) : (fewV V).length = min 6 V.length := by simp [fewV]

set_option maxRecDepth 100000 in
set_option maxHeartbeats 1600000 in
theorem few_any (A : Option Addr) (n cap : Nat) (V : List (List Int)) (w : World) (hl : V.length = n) (hn : n ≤ 9223372036854775807) (hV : Mat w A V) :
    Calls Try.prog 19 #[.slice A n cap] w fun e w' => ∃ A' q c, e = .returned (.slice A' q c) ∧ q = (fewV V).length ∧ q ≤ 6 ∧ q ≤ c ∧ c ≤ 9223372036854775807 ∧ Mat w' A' (fewV V) ∧ Below w.heap.size w w' := by
  have H := Lib.hid (And.intro hl hV)
  clear hl hV
  go_enter Try.func19, Try.ntmps19
  go_wp2_with fail
  go_loopw [3, 8] (fun ov iv wr => ∃ (k : Nat) (B : Option Addr) (q bc : Nat) (vs : List Value), k ≤ n ∧ iv = .int .i64 k ∧ ov = .slice B q bc ∧ q = (fewV (V.take k)).length ∧ wr.ownsRow w.heap.size 23 1 (.slice B q bc) q vs ∧ Rows wr 0 vs (fewV (V.take k)) ∧ Below w.heap.size w wr) (fun _ iv _ => n - (intOf iv).toNat)
  case atStart => exact ⟨0, none, 0, 0, [], Nat.zero_le _, rfl, rfl, rfl, World.ownsRow_nil _ _ _ _, Rows.nil, Below.refl _ _⟩
  case round =>
    obtain ⟨k, B, q, bc, vs, hk, rfl, rfl, hq, hown, hrows, hbl⟩ := hrel
    obtain ⟨wo, rfl⟩ : ∃ wo : World, wo = wr := ⟨_, rfl⟩
    have hq6 : q ≤ 6 := by rw [hq, fewV_length]; omega
    have HR := Lib.hid (And.intro hown (And.intro hrows (And.intro hbl hq)))
    have hwsz := hbl.size
    clear hown hrows hbl hq
    by_cases hlt : k < n
    · obtain ⟨r, hr⟩ : ∃ r, V[k]? = some r := ⟨_, List.getElem?_eq_getElem (by have := H.out.1; omega)⟩
      obtain ⟨ad, A', c, rfl, hcell, hrc, hc2, hI⟩ := H.out.2 k r hr
      have hcell2 := (HR.out.2.2.1.cell (lt_of_cell hcell)).trans hcell
      obtain ⟨rl, hrl⟩ : ∃ rl, rl = r.length := ⟨_, rfl⟩
      rw [← hrl] at hcell2 hrc
      have HI := Lib.hid (And.intro (hI.below HR.out.2.2.1) (And.intro hrl hr))
      have l1 : (k : Int) < (n : Int) := by omega
      clear hr hcell hI hrl
      by_cases h6 : k < 6
      · go_wp2_with fail
        refine (list_any A' rl c r _ HI.out.2.1.symm hrc hc2 HI.out.1).mono ?_
        rintro e w2 ⟨A2, c2, rfl, hown2, hb2⟩
        have hb2' : Below wo.heap.size wo w2 := hb2
        have hw2 := hb2.size
        have H2 := Lib.hid (And.intro (own_below HR.out.1 hb2) (And.intro (HR.out.2.1.below hb2) (And.intro (Row1.of_own hown2 0) (And.intro hb2 (fewV_on HI.out.2.2 h6)))))
        clear hown2 hb2 hb2'
        go_wp2_with (at_builtin; refine app1 sty_intss rfl _ _ rfl w.heap.size B q bc _ #[.slice A2 (min rl 9) c2] rfl (by simp [Value.oneCell']) rfl H2.out.1 rfl (by omega) (by omega) ?_)
        intro A8 k8 w8 hown8 hg8 hbl8 hk81 hk82
        have hrows8 : Rows w8 0 (vs ++ [.slice A2 (min rl 9) c2]) (fewV (V.take (k + 1))) := by
          rw [H2.out.2.2.2.2]
          exact (H2.out.2.1.grown H2.out.1 (Nat.zero_le _) hg8).append (Rows.one_ (H2.out.2.2.1.grown H2.out.1 (Nat.zero_le _) hg8))
        have hlen8 : q + 1 = (fewV (V.take (k + 1))).length := by rw [H2.out.2.2.2.2, List.length_append, ← HR.out.2.2.2]; rfl
        have H8 := Lib.hid (And.intro hown8 (And.intro hrows8 (And.intro (HR.out.2.2.1.trans ((H2.out.2.2.2.1.mono hwsz).trans hbl8)) hlen8)))
        clear hown8 hg8 hbl8 hrows8 hlen8
        go_wp2_with fail
        go_roundw
        case rel => exact ⟨k + 1, A8, q + 1, k8, _, by omega, by go_num, by go_num, H8.out.2.2.2, H8.out.1, H8.out.2.1, H8.out.2.2.1⟩
        case measure => simp [intOf]; omega
      · have HE := Lib.hid (fewV_off (V := V) (k := k) (by omega))
        go_wp2_with fail
        go_roundw
        case rel => exact ⟨k + 1, B, q, bc, vs, by omega, by go_num, rfl, by rw [HE.out]; exact HR.out.2.2.2, HR.out.1, by rw [HE.out]; exact HR.out.2.1, HR.out.2.2.1⟩
        case measure => simp [intOf]; omega
    · obtain rfl : k = n := by omega
      go_wp2_with fail
      go_ret
      have hT : V.take k = V := List.take_of_length_le (by have := H.out.1; omega)
      obtain ⟨g1, g2, g3, g4⟩ := HR.out
      rw [hT] at g2 g4
      obtain ⟨A', c', he, h1, h2, _⟩ := own_form g1
      injection he with e1 e2 e3
      subst e1; subst e3
      exact ⟨B, q, bc, rfl, g4, hq6, h1, h2, Mat.of_rows (At.of_own g1) g2, g3⟩
end Go.Proofs.Ytkljambjdiblkaa
