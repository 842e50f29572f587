/- Slices of pairs of ints: memory, append, and slices.Equal. -/
import Derived.Test.YtkljambjdiblkaaSMat
import Derived.Test.YtkljambjdiblkaaEqB
import Derived.ChangeKeysEq
namespace Go.Proofs.Ytkljambjdiblkaa
open Go.RowKit

theorem info_pair : (Try.prog.info? 38).map (fun i => (i.zero, i.size, i.bytes)) = some (some (.agg #[.int .i64 0, .int .i64 0]), 2, 16) := by kernel_rfl
theorem sty_pair : STy 42 38 (.agg #[.int .i64 0, .int .i64 0]) 2 16 := ⟨Try.underlying42, info_pair, rfl, by decide, by decide⟩

/-- The cells of pairs. -/
def pcells (ps : List (Nat × Nat)) : List Value := ps.flatMap fun p => [.int .i64 (p.1 : Int), .int .i64 (p.2 : Int)]
theorem pcells_append (a b : List (Nat × Nat)) : pcells (a ++ b) = pcells a ++ pcells b := by simp [pcells]
theorem pcells_length (ps : List (Nat × Nat)) : (pcells ps).length = ps.length * 2 := by
  induction ps with
  | nil => rfl
  | cons p ps ih => simp [pcells] at ih ⊢; omega
theorem pcells_at (ps : List (Nat × Nat)) (k : Nat) (p : Nat × Nat) (h : ps[k]? = some p) : (pcells ps)[k * 2]? = some (.int .i64 (p.1 : Int)) ∧ (pcells ps)[k * 2 + 1]? = some (.int .i64 (p.2 : Int)) := by
  induction ps generalizing k with
  | nil => simp at h
  | cons q ps ih =>
    cases k with
    | zero => simp at h; subst h; simp [pcells]
    | succ k =>
      have := ih k (by simpa using h)
      have e1 : (k + 1) * 2 = k * 2 + 1 + 1 := by omega
      rw [e1]
      simpa [pcells] using this
/-- The slice at A reads as these pairs. -/
def Pairs (w : World) (A : Option Addr) (ps : List (Nat × Nat)) : Prop := At w A (pcells ps)
theorem Pairs.some_ {w : World} {A : Option Addr} {ps : List (Nat × Nat)} (h : Pairs w A ps) (hn : 0 < ps.length) : ∃ ad, A = some ad ∧ ad.block < w.heap.size ∧ ∀ i p, ps[i]? = some p → w.cell? (ad.add (i * 2)) = some (.int .i64 (p.1 : Int)) ∧ w.cell? ⟨(ad.add (i * 2)).block, (ad.add (i * 2)).off + 1, none⟩ = some (.int .i64 (p.2 : Int)) := by
  obtain ⟨ad, e, hb, hc⟩ := At.some_ h (by rw [pcells_length]; omega)
  refine ⟨ad, e, hb, fun i q hq => ?_⟩
  obtain ⟨h1, h2⟩ := pcells_at ps i q hq
  refine ⟨hc _ _ h1, ?_⟩
  have h3 := hc _ _ h2
  rw [← add_add] at h3
  exact h3
theorem Pairs.below {w w' : World} {A : Option Addr} {ps : List (Nat × Nat)} (h : Pairs w A ps) (hb : Below w.heap.size w w') : Pairs w' A ps := At.below h hb

theorem plain_int : Try.prog.plainKey 3 = true := by kernel_rfl
theorem cells_int : Try.prog.cellsOf 3 = 1 := by kernel_rfl
theorem eq_pair (a b c d : Int) (w : World) : (Op.equalIn 10000 38 (.agg #[.int .i64 a, .int .i64 b]) (.agg #[.int .i64 c, .int .i64 d])).run Try.prog w = .ok (decide (a = c) && decide (b = d)) w := by
  obtain ⟨i0, hi, _⟩ := info_parts info_int
  have h := run_equalIn_array (P := Try.prog) w 9999 (t := 38) (e := 3) (n := 2) #[.int .i64 a, .int .i64 b] #[.int .i64 c, .int .i64 d] Try.underlying38 hi
  rw [show (10000 : Nat) = 9999 + 1 from rfl, h, cells_int]
  have p0 : ∀ x y : Value, (part 3 #[x, y] (0 * 1)).run Try.prog w = .ok x w := fun x y => run_part_plain w plain_int rfl
  have p1 : ∀ x y : Value, (part 3 #[x, y] 1).run Try.prog w = .ok y w := fun x y => run_part_plain w plain_int rfl
  have q : ∀ x y : Int, (Op.equalIn 9999 3 (.int .i64 x) (.int .i64 y)).run Try.prog w = .ok (x == y) w := fun x y => run_equalIn_int w 9998 3 .i64 .i64 x y Try.underlying3
  show (Op.eqItems 9999 3 1 _ _ [0, 1]).run Try.prog w = _
  simp only [Op.eqItems, Sem.run_bind, p0, q, Result.andThen_ok]
  by_cases h1 : a = c
  · by_cases h2 : b = d
    · simp [h1, h2, p1, q, Sem.run_bind]
    · have : (b == d) = false := by simp [h2]
      simp [h1, h2, p1, q, Sem.run_bind, this]
  · have : (a == c) = false := by simp [h1]
    simp [h1, this]
theorem run_neq_pair (p q : Nat × Nat) (w : World) : (binOp .neq 38 (.agg #[.int .i64 (p.1 : Int), .int .i64 (p.2 : Int)]) (.agg #[.int .i64 (q.1 : Int), .int .i64 (q.2 : Int)])).run Try.prog w = .ok (.bool (decide (p ≠ q))) w := by
  have e0 : decide (p ≠ q) = !(decide ((p.1 : Int) = (q.1 : Int)) && decide ((p.2 : Int) = (q.2 : Int))) := by
    rw [Bool.eq_iff_iff]; simp only [ne_eq, Prod.ext_iff, decide_eq_true_eq, Bool.not_eq_true', Bool.and_eq_false_iff, decide_eq_false_iff_not]
    constructor
    · intro h
      by_cases h1 : p.1 = q.1
      · exact .inr fun h2 => h ⟨h1, by omega⟩
      · exact .inl fun h2 => h1 (by omega)
    · rintro (h | h) ⟨h1, h2⟩
      · exact h (by omega)
      · exact h (by omega)
  rw [e0]
  have h := eq_pair (p.1 : Int) p.2 q.1 q.2 w
  go_simp

set_option maxHeartbeats 800000 in
theorem equalP_any (A A' : Option Addr) (n n' cap cap' : Nat) (ps qs : List (Nat × Nat)) (w : World) (hl : ps.length = n) (hl' : qs.length = n') (hm : n ≤ 1000000) (h : Pairs w A ps) (h' : Pairs w A' qs) :
    Calls Try.prog 33 #[.slice A n cap, .slice A' n' cap'] w fun e w' => e = .returned (.bool (eqB ps qs)) ∧ ∃ m, w' = w.drewN m := by
  by_cases hnn : n = n'
  · subst hnn
    by_cases h0 : n = 0
    · subst h0
      obtain rfl := List.eq_nil_of_length_eq_zero hl
      obtain rfl := List.eq_nil_of_length_eq_zero hl'
      go_enter Try.func33, Try.ntmps33
      go_wp2
      refine wp_loop_rounds 1 ?_
      rw [rounds_succ]
      go_wp2
      go_ret
      exact ⟨rfl, 0, rfl⟩
    · obtain ⟨ad, rfl, _, hc⟩ := h.some_ (by omega)
      obtain ⟨ad', rfl, _, hc'⟩ := h'.some_ (by omega)
      have H := Lib.hid (And.intro hl (And.intro hl' (And.intro hc hc')))
      clear hl hl' hc hc' h h'
      go_enter Try.func33, Try.ntmps33
      go_wp2
      go_loopw [13] (fun iv wr => ∃ k : Nat, k ≤ n ∧ iv = .int .i64 k ∧ ps.take k = qs.take k ∧ ∃ m, wr = w.drewN m) (fun iv _ => n - (intOf iv).toNat)
      case atStart => exact ⟨0, Nat.zero_le _, rfl, rfl, 0, rfl⟩
      case round =>
        obtain ⟨k, hk, rfl, ht, m, rfl⟩ := hrel
        have HT := Lib.hid ht
        clear ht
        obtain ⟨hl, hl', hc, hc'⟩ := H.out
        by_cases hlt : k < n
        · obtain ⟨p, hp⟩ : ∃ p, ps[k]? = some p := ⟨_, List.getElem?_eq_getElem (by omega)⟩
          obtain ⟨q, hq⟩ : ∃ q, qs[k]? = some q := ⟨_, List.getElem?_eq_getElem (by omega)⟩
          obtain ⟨c1, c2⟩ := hc k p hp
          obtain ⟨c3, c4⟩ := hc' k q hq
          have HP := Lib.hid (And.intro hp hq)
          clear hp hq hc hc' hl hl'
          by_cases he : p = q
          · subst he
            have heq : ∀ w, (binOp .neq 38 (.agg #[.int .i64 (p.1 : Int), .int .i64 (p.2 : Int)]) (.agg #[.int .i64 (p.1 : Int), .int .i64 (p.2 : Int)])).run Try.prog w = .ok (.bool false) w := fun w => by
              rw [run_neq_pair]; simp
            go_wp2
            go_region
            all_goals go_wp2
            go_roundw
            case rel => exact ⟨k + 1, by omega, by go_num, take_eq_succ HP.out.1 HP.out.2 HT.out, m + 1, rfl⟩
            case measure => simp [intOf]; omega
          · have HNE := Lib.hid he
            have hne : ∀ w, (binOp .neq 38 (.agg #[.int .i64 (p.1 : Int), .int .i64 (p.2 : Int)]) (.agg #[.int .i64 (q.1 : Int), .int .i64 (q.2 : Int)])).run Try.prog w = .ok (.bool true) w := fun w => by
              rw [run_neq_pair]; simp [he]
            clear he
            go_wp2
            go_region
            all_goals go_wp2
            go_ret
            exact ⟨ret_bool (eqB_at HP.out.1 HP.out.2 HNE.out).symm, m + 1, rfl⟩
        · obtain rfl : k = n := by omega
          have HF : Hid (eqB ps qs = true) := Lib.hid (eqB_all hl hl' HT.out)
          clear hl hl' hc hc'
          go_wp2
          go_ret
          exact ⟨ret_bool HF.out.symm, m, rfl⟩
  · have HF : Hid (eqB ps qs = false) := Lib.hid (eqB_len (by omega))
    have hne : ((n : Int) != (n' : Int)) = true := by rw [bne_iff_ne]; omega
    clear hl hl' h h'
    go_enter Try.func33, Try.ntmps33
    go_wp2
    go_ret
    exact ⟨ret_bool HF.out.symm, 0, rfl⟩
end Go.Proofs.Ytkljambjdiblkaa
