/- Contracts: slices.Equal of ints and of fractions. -/
import Derived.Test.YtbidboagaoifaaaShapley
namespace Go.Proofs.Ytbidboagaoifaaa
open Go.RowKit

def eqB {α : Type} [DecidableEq α] (a b : List α) : Bool := decide (a = b)
theorem eqB_len {α : Type} [DecidableEq α] {a b : List α} (h : a.length ≠ b.length) : eqB a b = false := by
  unfold eqB; exact decide_eq_false fun e => h (by rw [e])
theorem eqB_at {α : Type} [DecidableEq α] {a b : List α} {k : Nat} {x y : α} (hx : a[k]? = some x) (hy : b[k]? = some y) (h : x ≠ y) : eqB a b = false := by
  unfold eqB; exact decide_eq_false fun e => h (by rw [e, hy] at hx; injection hx with hx; exact hx.symm)
theorem eqB_all {α : Type} [DecidableEq α] {a b : List α} {n : Nat} (ha : a.length = n) (hb : b.length = n) (h : a.take n = b.take n) : eqB a b = true := by
  unfold eqB; apply decide_eq_true
  rwa [List.take_of_length_le (by omega), List.take_of_length_le (by omega)] at h
theorem take_eq_succ {α : Type} {a b : List α} {k : Nat} {x : α} (hx : a[k]? = some x) (hy : b[k]? = some x) (h : a.take k = b.take k) : a.take (k + 1) = b.take (k + 1) := by
  rw [List.take_add_one, List.take_add_one, hx, hy, h]

theorem fcells_at (qs : List Rat) (k : Nat) (q : Rat) (h : qs[k]? = some q) : (fcells qs)[k * 2]? = some (.int .i64 q.num) ∧ (fcells qs)[k * 2 + 1]? = some (.int .i64 (q.den : Int)) := by
  induction qs generalizing k with
  | nil => simp at h
  | cons p qs ih =>
    cases k with
    | zero => simp at h; subst h; simp [fcells]
    | succ k =>
      have := ih k (by simpa using h)
      have e1 : (k + 1) * 2 = k * 2 + 1 + 1 := by omega
      rw [e1]
      simpa [fcells] using this
/-- The slice at A reads as these fractions. -/
def Fracs (w : World) (A : Option Addr) (qs : List Rat) : Prop := At w A (fcells qs)
theorem Fracs.some_ {w : World} {A : Option Addr} {qs : List Rat} (h : Fracs w A qs) (hn : 0 < qs.length) : ∃ ad, A = some ad ∧ ad.block < w.heap.size ∧ ∀ i q, qs[i]? = some q → w.cell? (ad.add (i * 2)) = some (.int .i64 q.num) ∧ w.cell? ⟨(ad.add (i * 2)).block, (ad.add (i * 2)).off + 1, none⟩ = some (.int .i64 (q.den : Int)) := by
  have hl : 0 < (fcells qs).length := by
    cases qs with
    | nil => simp at hn
    | cons p qs => simp [fcells]
  obtain ⟨ad, e, hb, hc⟩ := At.some_ h hl
  refine ⟨ad, e, hb, fun i q hq => ?_⟩
  obtain ⟨h1, h2⟩ := fcells_at qs i q hq
  refine ⟨hc _ _ h1, ?_⟩
  have h3 := hc _ _ h2
  rw [← add_add] at h3
  exact h3
theorem Fracs.below {w w' : World} {A : Option Addr} {qs : List Rat} (h : Fracs w A qs) (hb : Below w.heap.size w w') : Fracs w' A qs := At.below h hb

/-- '==' and '!=' of two fractions. -/
def neB (p q : Rat) : Bool := decide (p ≠ q)
def eqQ (p q : Rat) : Bool := decide (p = q)
theorem rat_eq_iff (p q : Rat) : p = q ↔ p.num = q.num ∧ (p.den : Int) = (q.den : Int) :=
  ⟨by rintro rfl; exact ⟨rfl, rfl⟩, fun h => Rat.ext h.1 (by omega)⟩
theorem run_neq_frac (p q : Rat) (w : World) : (binOp .neq 31 (.agg #[.int .i64 p.num, .int .i64 (p.den : Int)]) (.agg #[.int .i64 q.num, .int .i64 (q.den : Int)])).run Try.prog w = .ok (.bool (neB p q)) w := by
  unfold neB
  have e0 : decide (p ≠ q) = !(decide (p.num = q.num) && decide ((p.den : Int) = (q.den : Int))) := by
    rw [Bool.eq_iff_iff]; simp only [ne_eq, rat_eq_iff, decide_eq_true_eq, Bool.not_eq_true', Bool.and_eq_false_iff, decide_eq_false_iff_not]
    exact Decidable.not_and_iff_not_or_not
  rw [e0]
  by_cases h1 : p.num = q.num
  · by_cases h2 : (p.den : Int) = (q.den : Int)
    · simp only [h1, h2]; go_simp
    · simp only [h1]; go_simp
  · go_simp

set_option maxHeartbeats 800000 in
theorem equalF_any (A A' : Option Addr) (n n' cap cap' : Nat) (ps qs : List Rat) (w : World) (hl : ps.length = n) (hl' : qs.length = n') (hm : n ≤ 1000000) (h : Fracs w A ps) (h' : Fracs w A' qs) :
    Calls Try.prog 29 #[.slice A n cap, .slice A' n' cap'] w fun e w' => e = .returned (.bool (eqB ps qs)) ∧ ∃ m, w' = w.drewN m := by
  by_cases hnn : n = n'
  · subst hnn
    by_cases h0 : n = 0
    · subst h0
      obtain rfl := List.eq_nil_of_length_eq_zero hl
      obtain rfl := List.eq_nil_of_length_eq_zero hl'
      go_enter Try.func29, Try.ntmps29
      go_wp2
      refine wp_loop_rounds 1 ?_
      rw [rounds_succ]
      go_wp2
      go_ret
      exact ⟨rfl, 0, rfl⟩
    · obtain ⟨ad, rfl, _, hc⟩ := h.some_ (by omega)
      obtain ⟨ad', rfl, _, hc'⟩ := h'.some_ (by omega)
      have H := Lib.hid (And.intro hl (And.intro hl' (And.intro hc hc')))
      clear hl hl' hc hc' h h'
      go_enter Try.func29, Try.ntmps29
      go_wp2
      go_loopw [13] (fun iv wr => ∃ k : Nat, k ≤ n ∧ iv = .int .i64 k ∧ ps.take k = qs.take k ∧ ∃ m, wr = w.drewN m) (fun iv _ => n - (intOf iv).toNat)
      case atStart => exact ⟨0, Nat.zero_le _, rfl, rfl, 0, rfl⟩
      case round =>
        obtain ⟨k, hk, rfl, ht, m, rfl⟩ := hrel
        have HT := Lib.hid ht
        clear ht
        obtain ⟨hl, hl', hc, hc'⟩ := H.out
        by_cases hlt : k < n
        · obtain ⟨p, hp⟩ : ∃ p, ps[k]? = some p := ⟨_, List.getElem?_eq_getElem (by omega)⟩
          obtain ⟨q, hq⟩ : ∃ q, qs[k]? = some q := ⟨_, List.getElem?_eq_getElem (by omega)⟩
          obtain ⟨c1, c2⟩ := hc k p hp
          obtain ⟨c3, c4⟩ := hc' k q hq
          have HP := Lib.hid (And.intro hp hq)
          clear hp hq hc hc' hl hl'
          by_cases he : p = q
          · subst he
            go_wp2
            go_region
            all_goals go_wp2
            go_roundw
            case rel => exact ⟨k + 1, by omega, by go_num, take_eq_succ HP.out.1 HP.out.2 HT.out, m + 1, rfl⟩
            case measure => simp [intOf]; omega
          · have HNE := Lib.hid he
            have hne : ∀ w, (binOp .neq 31 (.agg #[.int .i64 p.num, .int .i64 (p.den : Int)]) (.agg #[.int .i64 q.num, .int .i64 (q.den : Int)])).run Try.prog w = .ok (.bool true) w := fun w => by
              rw [run_neq_frac]; unfold neB; simp [he]
            clear he
            go_wp2
            go_region
            all_goals go_wp2
            go_ret
            exact ⟨ret_bool (eqB_at HP.out.1 HP.out.2 HNE.out).symm, m + 1, rfl⟩
        · obtain rfl : k = n := by omega
          have HF : Hid (eqB ps qs = true) := Lib.hid (eqB_all hl hl' HT.out)
          clear hl hl' hc hc'
          go_wp2
          go_ret
          exact ⟨ret_bool HF.out.symm, m, rfl⟩
  · have HF : Hid (eqB ps qs = false) := Lib.hid (eqB_len (by omega))
    have hne : ((n : Int) != (n' : Int)) = true := by rw [bne_iff_ne]; omega
    clear hl hl' h h'
    go_enter Try.func29, Try.ntmps29
    go_wp2
    go_ret
    exact ⟨ret_bool HF.out.symm, 0, rfl⟩
end Go.Proofs.Ytbidboagaoifaaa
