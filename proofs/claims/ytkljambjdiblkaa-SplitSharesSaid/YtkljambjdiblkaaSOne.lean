/- Contracts: one of package split, Goods of the reference. -/
import Derived.Test.YtkljambjdiblkaaSRef
import Derived.Test.YtkljambjdiblkaaSValid
namespace Go.Proofs.Ytkljambjdiblkaa
open Go.RowKit

/-- Goods for so many people. -/
def goodL (l : List Int) (n : Int) : Bool := decide (1 ≤ l.length) && decide (l.length ≤ 7) && l.all in100 && decide (1 ≤ n) && decide (n ≤ 7)
theorem goodL_in {l : List Int} {n : Int} (h1 : 1 ≤ l.length) (h2 : l.length ≤ 7) (h3 : 1 ≤ n) (h4 : n ≤ 7) : goodL l n = (decide (0 ≤ lmin l) && decide (lmax l ≤ 100)) := by
  have hne : l ≠ [] := by rintro rfl; simp at h1
  unfold goodL
  rw [decide_eq_true h1, decide_eq_true h2, decide_eq_true h3, decide_eq_true h4]
  simp only [Bool.true_and, Bool.and_true]
  rw [Bool.eq_iff_iff, List.all_eq_true]
  simp only [Bool.and_eq_true, decide_eq_true_eq, in100]
  constructor
  · intro h
    exact ⟨(lmin_ge hne 0).2 fun x hx => (h x hx).1, (lmax_le hne 100).2 fun x hx => (h x hx).2⟩
  · intro ⟨a, b⟩ x hx
    exact ⟨(lmin_ge hne 0).1 a x hx, (lmax_le hne 100).1 b x hx⟩

set_option maxHeartbeats 1600000 in
theorem one_any (A : Option Addr) (k cap : Nat) (n : Int) (l : List Int) (w : World) (hl : l.length = k) (hk : k ≤ 9223372036854775807) (hI : Ints w A l) :
    Calls Try.prog 57 #[.slice A k cap, .int .i64 n] w fun e w' => e = .returned (.bool (goodL l n)) ∧ w = w' := by
  obtain ⟨b, hb⟩ : ∃ b, b = goodL l n := ⟨_, rfl⟩
  rw [← hb]
  have H := Lib.hid (And.intro hl hI)
  have bad : ((¬ 1 ≤ l.length) ∨ (¬ l.length ≤ 7) ∨ (¬ 1 ≤ n) ∨ ¬ n ≤ 7) → Hid (false = b) := fun h => Lib.hid (by
    rw [hb]; unfold goodL
    rcases h with h | h | h | h <;> simp [h])
  have good : 1 ≤ l.length → l.length ≤ 7 → 1 ≤ n → n ≤ 7 → Hid (b = (decide (0 ≤ lmin l) && decide (lmax l ≤ 100))) := fun a1 a2 a3 a4 => Lib.hid (by rw [hb]; exact goodL_in a1 a2 a3 a4)
  rw [hl] at bad good
  clear hl hI hb
  by_cases h1 : 1 ≤ n
  · by_cases h2 : n ≤ 7
    · by_cases h3 : 1 ≤ k
      · by_cases h4 : k ≤ 7
        · have HG := good h3 h4 h1 h2
          have c1 : (1 : Int) ≤ (k : Int) := by omega
          have c2 : (k : Int) ≤ 7 := by omega
          clear bad good
          go_enter Try.func57, Try.ntmps57
          go_wp2_with fail
          refine (min_any A k cap l _ H.out.1 (by omega) hk H.out.2).mono ?_
          rintro e w' ⟨rfl, rfl⟩
          generalize lmin l = lo at *
          by_cases h5 : 0 ≤ lo
          · have HG2 : Hid (decide (lmax l ≤ 100) = b) := Lib.hid (by rw [HG.out, decide_eq_true h5]; rfl)
            go_wp2_with fail
            refine (max_any A k cap l _ H.out.1 (by omega) hk H.out.2).mono ?_
            rintro e w' ⟨rfl, rfl⟩
            go_wp2_with fail
            go_ret
            exact ⟨ret_bool HG2.out, rfl⟩
          · have HF : Hid (false = b) := Lib.hid (by rw [HG.out, decide_eq_false h5]; rfl)
            go_wp2_with fail
            go_ret
            exact ⟨ret_bool HF.out, rfl⟩
        · have HF := bad (.inr (.inl h4))
          clear bad good
          go_enter Try.func57, Try.ntmps57
          go_wp2_with fail
          go_ret
          exact ⟨ret_bool HF.out, rfl⟩
      · have HF := bad (.inl h3)
        clear bad good
        go_enter Try.func57, Try.ntmps57
        go_wp2_with fail
        go_ret
        exact ⟨ret_bool HF.out, rfl⟩
    · have HF := bad (.inr (.inr (.inr h2)))
      clear bad good
      go_enter Try.func57, Try.ntmps57
      go_wp2_with fail
      go_ret
      exact ⟨ret_bool HF.out, rfl⟩
  · have HF := bad (.inr (.inr (.inl h1)))
    clear bad good
    go_enter Try.func57, Try.ntmps57
    go_wp2_with fail
    go_ret
    exact ⟨ret_bool HF.out, rfl⟩

set_option maxHeartbeats 1600000 in
theorem r1goods_any (A : Option Addr) (k cap : Nat) (n : Int) (l : List Int) (w : World) (hl : l.length = k) (hk : k ≤ 9223372036854775807) (hI : Ints w A l) :
    Calls Try.prog 27 #[.slice A k cap, .int .i64 n] w fun e w' => e = .returned (.bool (goodL l n)) ∧ w = w' := by
  obtain ⟨b, hb⟩ : ∃ b, b = goodL l n := ⟨_, rfl⟩
  rw [← hb]
  have H := Lib.hid (And.intro hl hI)
  unfold goodL at hb
  rw [hl] at hb
  clear hl hI
  by_cases h3 : 1 ≤ k
  · by_cases h4 : k ≤ 7
    · rw [decide_eq_true h3, decide_eq_true h4] at hb
      have HB := Lib.hid hb
      have c1 : (1 : Int) ≤ (k : Int) := by omega
      have c2 : (k : Int) ≤ 7 := by omega
      clear hb
      go_enter Try.func27, Try.ntmps27
      go_wp2_with fail
      refine (worths_any A k cap l _ H.out.1 hk H.out.2).mono ?_
      rintro e w' ⟨rfl, rfl⟩
      cases hv : l.all in100
      · have HF : Hid (false = b) := Lib.hid (by rw [HB.out, hv]; rfl)
        clear hv
        go_wp2_with fail
        go_ret
        exact ⟨ret_bool HF.out, rfl⟩
      · have HF : Hid (b = (decide (1 ≤ n) && decide (n ≤ 7))) := Lib.hid (by rw [HB.out, hv]; rfl)
        clear hv
        by_cases h1 : 1 ≤ n
        · have HF2 : Hid (decide (n ≤ 7) = b) := Lib.hid (by rw [HF.out, decide_eq_true h1]; rfl)
          go_wp2_with fail
          go_ret
          exact ⟨ret_bool HF2.out, rfl⟩
        · have HF2 : Hid (false = b) := Lib.hid (by rw [HF.out, decide_eq_false h1]; rfl)
          go_wp2_with fail
          go_ret
          exact ⟨ret_bool HF2.out, rfl⟩
    · have HF : Hid (false = b) := Lib.hid (by rw [hb, decide_eq_false h4]; simp)
      clear hb
      go_enter Try.func27, Try.ntmps27
      go_wp2_with fail
      go_ret
      exact ⟨ret_bool HF.out, rfl⟩
  · have HF : Hid (false = b) := Lib.hid (by rw [hb, decide_eq_false h3]; simp)
    clear hb
    go_enter Try.func27, Try.ntmps27
    go_wp2_with fail
    go_ret
    exact ⟨ret_bool HF.out, rfl⟩
end Go.Proofs.Ytkljambjdiblkaa
