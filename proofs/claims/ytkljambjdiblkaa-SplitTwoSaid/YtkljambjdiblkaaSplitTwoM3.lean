/- Laws and contracts that the proof of SplitTwo uses, part 3. -/
import Derived.Test.YtkljambjdiblkaaSplitTwoM2
import Derived.Test.YtkljambjdiblkaaSplitTwoM1
import Derived.Laws.BitsAllLaws
import Derived.Laws.BitsLemmas
import Derived.Test.YtkljambjdiblkaaProg
namespace Go.Proofs.Ytkljambjdiblkaa
open Go.RowKit

/- For two people some division is fair up to any: plain Lean. -/

/-- What a set says: the goods of person 1. -/
def bitL (set m : Nat) : List Int := (List.range m).map fun g => if set.testBit g then 1 else 0
theorem bitL_get {set m g : Nat} (h : g < m) : (bitL set m).getD g 0 = if set.testBit g then 1 else 0 := by
  simp [bitL, List.getD_eq_getElem?_getD, h]
theorem bitL_length (set m : Nat) : (bitL set m).length = m := by simp [bitL]
theorem bitL_all (d : List Int) (h : ∀ x ∈ d, x = 0 ∨ x = 1) : ∃ set, set < 2 ^ d.length ∧ bitL set d.length = d := by
  induction d with
  | nil => exact ⟨0, by simp, rfl⟩
  | cons x d ih =>
    obtain ⟨s, hs, e⟩ := ih fun y hy => h y (List.mem_cons_of_mem _ hy)
    have key : ∀ b : Bool, (if b then (1 : Int) else 0) = x → ∃ set, set < 2 ^ (x :: d).length ∧ bitL set (x :: d).length = x :: d := by
      intro b hb
      refine ⟨2 * s + b.toNat, ?_, ?_⟩
      · rw [List.length_cons, Nat.pow_succ]
        have : b.toNat ≤ 1 := by cases b <;> simp
        omega
      · unfold bitL
        rw [List.length_cons, List.range_succ_eq_map, List.map_cons, List.map_map]
        have h0 : (2 * s + b.toNat).testBit 0 = b := by
          rw [Nat.testBit_zero]
          cases b <;> simp <;> omega
        have h1 : ∀ g, (2 * s + b.toNat).testBit (g + 1) = s.testBit g := by
          intro g
          rw [Nat.testBit_succ]
          congr 1
          cases b <;> simp <;> omega
        rw [h0, hb]
        congr 1
        refine Eq.trans (List.map_congr_left fun g _ => ?_) e
        show (if (2 * s + b.toNat).testBit (g + 1) then (1 : Int) else 0) = _
        rw [h1 g]
    rcases h x (List.mem_cons_self ..) with hx | hx
    · exact key false (by rw [hx]; rfl)
    · exact key true (by rw [hx]; rfl)

/-- Everything is changed over. -/
def flipL (d : List Int) : List Int := d.map fun x => 1 - x
theorem flipL_getD {d : List Int} {g : Nat} (h : g < d.length) : (flipL d).getD g 0 = 1 - d.getD g 0 := by
  simp [flipL, List.getD_eq_getElem?_getD, h]
def twoL (d : List Int) : Prop := ∀ x ∈ d, x = 0 ∨ x = 1
theorem twoL_at {d : List Int} (h : twoL d) {g : Nat} (hg : g < d.length) : d.getD g 0 = 0 ∨ d.getD g 0 = 1 :=
  h _ (by rw [List.getD_eq_getElem?_getD, List.getElem?_eq_getElem hg]; exact List.getElem_mem hg)
theorem twoL_flip {d : List Int} (h : twoL d) : twoL (flipL d) := by
  intro x hx
  obtain ⟨y, hy, rfl⟩ := List.mem_map.1 hx
  rcases h y hy with e | e <;> rw [e] <;> simp
theorem worTo_flip {row d : List Int} (h : twoL d) (j : Int) (_hj : j = 0 ∨ j = 1) (g : Nat) (hg : g ≤ d.length) : worTo row (flipL d) j g = worTo row d (1 - j) g := by
  induction g with
  | zero => rfl
  | succ g ih =>
    simp only [worTo]
    rw [ih (by omega), flipL_getD (by omega)]
    have := twoL_at h (show g < d.length by omega)
    congr 1
    by_cases e : d.getD g 0 = 1 - j
    · rw [if_pos e, if_pos (by omega)]
    · rw [if_neg e, if_neg (by omega)]
theorem worTo_set {row d : List Int} (j y : Int) (i : Nat) (hi : i < d.length) (g : Nat) (hg : i < g) : worTo row (d.set i y) j g = worTo row d j g - (if d.getD i 0 = j then row.getD i 0 else 0) + (if y = j then row.getD i 0 else 0) := by
  have low : ∀ k, k ≤ i → worTo row (d.set i y) j k = worTo row d j k := by
    intro k
    induction k with
    | zero => intro _; rfl
    | succ k ih =>
      intro hk
      simp only [worTo]
      rw [ih (by omega), List.getD_eq_getElem?_getD, List.getElem?_set_ne (by omega), ← List.getD_eq_getElem?_getD]
  induction g with
  | zero => omega
  | succ g ih =>
    simp only [worTo]
    by_cases e : i = g
    · subst e
      rw [low i (Nat.le_refl _), List.getD_eq_getElem?_getD (l := d.set i y), List.getElem?_set_self hi]
      simp only [Option.getD_some]
      omega
    · rw [ih (by omega), List.getD_eq_getElem?_getD (l := d.set i y), List.getElem?_set_ne (by omega), ← List.getD_eq_getElem?_getD]
      omega
/-- How many goods the first person has. -/
def cnt0 (d : List Int) : Nat → Nat
  | 0 => 0
  | g + 1 => cnt0 d g + if d.getD g 0 = 0 then 1 else 0
theorem cnt0_le (d : List Int) (g : Nat) : cnt0 d g ≤ g := by
  induction g with
  | zero => exact Nat.le_refl _
  | succ g ih => simp only [cnt0]; split <;> omega
theorem cnt0_set {d : List Int} {i : Nat} (hi : i < d.length) (h1 : d.getD i 0 = 1) (g : Nat) (hg : i < g) : cnt0 (d.set i 0) g = cnt0 d g + 1 := by
  have low : ∀ k, k ≤ i → cnt0 (d.set i 0) k = cnt0 d k := by
    intro k
    induction k with
    | zero => intro _; rfl
    | succ k ih =>
      intro hk
      simp only [cnt0]
      rw [ih (by omega), List.getD_eq_getElem?_getD, List.getElem?_set_ne (by omega), ← List.getD_eq_getElem?_getD]
  induction g with
  | zero => omega
  | succ g ih =>
    simp only [cnt0]
    by_cases e : i = g
    · subst e
      rw [low i (Nat.le_refl _), List.getD_eq_getElem?_getD (l := d.set i 0), List.getElem?_set_self hi, h1]
      simp
    · rw [ih (by omega), List.getD_eq_getElem?_getD (l := d.set i 0), List.getElem?_set_ne (by omega), ← List.getD_eq_getElem?_getD]
      omega

/-- The first person's division: nothing that the second part could lose would leave it above the first. -/
theorem cut_exists {row : List Int} (hrow : ∀ x ∈ row, 0 ≤ x ∧ x ≤ 100) (m : Nat) (hm : m ≤ 7) (k : Nat) : ∀ (d : List Int), d.length = m → twoL d → worTo row d 0 m ≤ worTo row d 1 m → 6000 ≤ k + (worTo row d 0 m).toNat * 8 + cnt0 d m →
    ∃ d' : List Int, d'.length = m ∧ twoL d' ∧ worTo row d' 0 m ≤ worTo row d' 1 m ∧ ∀ g, g < m → d'.getD g 0 = 1 → worTo row d' 1 m - row.getD g 0 ≤ worTo row d' 0 m := by
  induction k with
  | zero =>
    intro d hd h2 _ hk
    have h1 := worTo_bd hrow d 0 m
    have h3 := cnt0_le d m
    omega
  | succ k ih =>
    intro d hd h2 hle hk
    by_cases hall : ∀ g, g < m → d.getD g 0 = 1 → worTo row d 1 m - row.getD g 0 ≤ worTo row d 0 m
    · exact ⟨d, hd, h2, hle, hall⟩
    · obtain ⟨g, hg, h1, hlt⟩ : ∃ g, g < m ∧ d.getD g 0 = 1 ∧ worTo row d 0 m < worTo row d 1 m - row.getD g 0 := by
        apply Classical.byContradiction
        intro hn
        apply hall
        intro g hg h1
        apply Classical.byContradiction
        intro h3
        exact hn ⟨g, hg, h1, by omega⟩
      have hb : 0 ≤ row.getD g 0 := by
        rw [List.getD_eq_getElem?_getD]
        cases hx : row[g]? with
        | none => simp
        | some x => exact (hrow x (List.mem_of_getElem? hx)).1
      have e0 := worTo_set (row := row) 0 0 g (show g < d.length by omega) m hg
      have e1 := worTo_set (row := row) 1 0 g (show g < d.length by omega) m hg
      rw [h1, if_neg (by omega), if_pos rfl] at e0
      rw [h1, if_pos rfl, if_neg (by omega)] at e1
      have hc := cnt0_set (show g < d.length by omega) h1 m hg
      have hw0 := (worTo_bd hrow d 0 m).1
      have h2' : twoL (d.set g 0) := by
        intro x hx
        rcases List.mem_or_eq_of_mem_set hx with h | h
        · exact h2 x h
        · exact .inl h
      have hl' : (d.set g 0).length = m := by rw [List.length_set]; exact hd
      by_cases hle' : worTo row (d.set g 0) 0 m ≤ worTo row (d.set g 0) 1 m
      · refine ih (d.set g 0) hl' h2' hle' ?_
        have : (worTo row d 0 m).toNat ≤ (worTo row (d.set g 0) 0 m).toNat := by omega
        omega
      · have f0 := worTo_flip (row := row) h2' 0 (.inl rfl) m (by omega)
        have f1 := worTo_flip (row := row) h2' 1 (.inr rfl) m (by omega)
        rw [show (1 : Int) - 0 = 1 by rfl] at f0
        rw [show (1 : Int) - 1 = 0 by rfl] at f1
        refine ih (flipL (d.set g 0)) (by unfold flipL; rw [List.length_map]; exact hl') (twoL_flip h2') (by omega) ?_
        have h3 := cnt0_le d m
        have : (worTo row d 0 m).toNat + 1 ≤ (worTo row (flipL (d.set g 0)) 0 m).toNat := by omega
        omega

theorem two_exists {V : List (List Int)} {m : Nat} (hm : m ≤ 7) (hr : ∀ i, i < 2 → (rowV V i).length = m ∧ ∀ x ∈ rowV V i, 0 ≤ x ∧ x ≤ 100) : ∃ set, set < 2 ^ m ∧ fairB V (bitL set m) 2 2 = true := by
  have hone : (List.replicate m (1 : Int)).length = m := by simp
  have hw : ∀ (row : List Int) g, g ≤ m → worTo row (List.replicate m (1 : Int)) 0 g = 0 := by
    intro row g
    induction g with
    | zero => intro _; rfl
    | succ g ih =>
      intro hg
      simp only [worTo]
      rw [ih (by omega), List.getD_eq_getElem?_getD, List.getElem?_replicate_of_lt (by omega)]
      simp
  obtain ⟨d, hd, h2, hle, hall⟩ := cut_exists (hr 0 (by omega)).2 m hm 6000 (List.replicate m 1) hone (fun x hx => .inr (List.eq_of_mem_replicate hx)) (by rw [hw _ m (Nat.le_refl _)]; exact (worTo_bd (hr 0 (by omega)).2 _ _ _).1) (by omega)
  have fin : ∀ d' : List Int, d'.length = m → twoL d' → fairB V d' 2 2 = true → ∃ set, set < 2 ^ m ∧ fairB V (bitL set m) 2 2 = true := by
    intro d' hd' h2' hf
    obtain ⟨s, hs, e⟩ := bitL_all d' h2'
    rw [hd'] at hs e
    exact ⟨s, hs, by rw [e]; exact hf⟩
  have fair : ∀ d' : List Int, d'.length = m → (envB V d' 0 1 = true → okE V d' 2 0 1 = true) → (envB V d' 1 0 = true → okE V d' 2 1 0 = true) → fairB V d' 2 2 = true := by
    intro d' hd' h1 h2
    rw [fairB_low (by omega), List.all_eq_true]
    intro p hp
    obtain ⟨ha, hb, hc⟩ := mem_envL.1 hp
    obtain ⟨i, j⟩ := p
    simp only at ha hb hc ⊢
    have hi : i = 0 ∨ i = 1 := by omega
    have hj : j = 0 ∨ j = 1 := by omega
    rcases hi with rfl | rfl <;> rcases hj with rfl | rfl
    · simp [envB] at hc
    · exact h1 hc
    · exact h2 hc
    · simp [envB] at hc
  by_cases hq : worTo (rowV V 1) d 0 m ≤ worTo (rowV V 1) d 1 m
  · refine fin d hd h2 (fair d hd ?_ ?_)
    · intro _
      unfold okE
      simp only [decide_true, Bool.true_and, Bool.or_eq_true]
      right
      rw [upB_each, hd]
      unfold wor
      rw [hd]
      exact hall
    · intro he
      unfold envB wor at he
      rw [hd] at he
      have := of_decide_eq_true he
      simp at this
      omega
  · have f0 := worTo_flip (row := rowV V 0) h2 0 (.inl rfl) m (by omega)
    have f1 := worTo_flip (row := rowV V 0) h2 1 (.inr rfl) m (by omega)
    have g0 := worTo_flip (row := rowV V 1) h2 0 (.inl rfl) m (by omega)
    have g1 := worTo_flip (row := rowV V 1) h2 1 (.inr rfl) m (by omega)
    rw [show (1 : Int) - 0 = 1 by rfl] at f0 g0
    rw [show (1 : Int) - 1 = 0 by rfl] at f1 g1
    have hl' : (flipL d).length = m := by simp [flipL, hd]
    refine fin (flipL d) hl' (twoL_flip h2) (fair _ hl' ?_ ?_)
    · intro he
      unfold envB wor at he
      rw [hl'] at he
      have := of_decide_eq_true he
      simp at this
      omega
    · intro he
      unfold envB wor at he
      rw [hl'] at he
      have := of_decide_eq_true he
      simp at this
      omega

/- Bits of sets of at most a few players, as the walk writes them. No program. -/

theorem ofInt_i64 (a : Nat) (ha : a < 9223372036854775808) : (BitVec.ofInt 64 (a : Int)).toNat = a := by
  rw [BitVec.ofInt_natCast, BitVec.toNat_ofNat]; exact Nat.mod_eq_of_lt (by omega)
theorem and_nat (a b : Nat) (ha : a < 9223372036854775808) (hb : b < 9223372036854775808) : bits .and .i64 (a : Int) (b : Int) = ((a &&& b : Nat) : Int) := by
  have hx : a &&& b < 2 ^ 63 := Nat.and_lt_two_pow _ (by omega)
  show IntKind.i64.wrap ((BitVec.ofInt 64 (a : Int) &&& BitVec.ofInt 64 (b : Int)).toNat : Int) = _
  rw [BitVec.toNat_and, ofInt_i64 a ha, ofInt_i64 b hb, IntKind.wrap_i64]
  omega
theorem or_nat (a b : Nat) (ha : a < 9223372036854775808) (hb : b < 9223372036854775808) : bits .or .i64 (a : Int) (b : Int) = ((a ||| b : Nat) : Int) := by
  have hx : a ||| b < 2 ^ 63 := Nat.or_lt_two_pow (by omega) (by omega)
  show IntKind.i64.wrap ((BitVec.ofInt 64 (a : Int) ||| BitVec.ofInt 64 (b : Int)).toNat : Int) = _
  rw [BitVec.toNat_or, ofInt_i64 a ha, ofInt_i64 b hb, IntKind.wrap_i64]
  omega
theorem pow_wrap (x : Nat) (hx : x < 16) : IntKind.i64.wrap ((2 : Int) ^ x) = ((2 ^ x : Nat) : Int) := by
  have : ∀ x : Fin 16, IntKind.i64.wrap ((2 : Int) ^ x.val) = ((2 ^ x.val : Nat) : Int) := by decide +kernel
  exact this ⟨x, hx⟩
theorem pow_lt {x : Nat} (hx : x < 16) : 2 ^ x < 65536 := by
  have : ∀ x : Fin 16, 2 ^ x.val < 65536 := by decide +kernel
  exact this ⟨x, hx⟩
theorem wrapEq (x : Int) : IntKind.i64.wrap x = wrap64 x := by unfold wrap64; rw [IntKind.wrap_i64]
/-- 'set | 1 << x', in the two spellings of the walk. -/
theorem or_pow (set x : Nat) (hs : set < 65536) (hx : x < 16) : bits .or .i64 (set : Int) (IntKind.i64.wrap ((2 : Int) ^ x)) = ((set ||| 2 ^ x : Nat) : Int) := by
  have := pow_lt hx
  rw [pow_wrap x hx, or_nat _ _ (by omega) (by omega)]
theorem or_pow' (set x : Nat) (hs : set < 65536) (hx : x < 16) : bits .or .i64 (set : Int) (wrap64 ((2 : Int) ^ x)) = ((set ||| 2 ^ x : Nat) : Int) := by
  rw [← wrapEq]; exact or_pow set x hs hx
/-- 'set >> k & 1', as the walk writes it. -/
theorem and_shr (set k : Nat) (h : set < 9223372036854775808) : bits .and .i64 ((set : Int) / 2 ^ k) 1 = ((if set.testBit k then 1 else 0 : Nat) : Int) := by
  have e : ((set : Int) / 2 ^ k) = ((set / 2 ^ k : Nat) : Int) := by simp
  have hle : set / 2 ^ k ≤ set := Nat.div_le_self _ _
  have e1 : (1 : Int) = ((1 : Nat) : Int) := rfl
  rw [e, e1, and_nat _ _ (by omega) (by omega), Nat.and_one_is_mod, Nat.testBit_eq_decide_div_mod_eq]
  have : set / 2 ^ k % 2 < 2 := Nat.mod_lt _ (by omega)
  by_cases h1 : set / 2 ^ k % 2 = 1
  · simp [h1]
  · have h0 : set / 2 ^ k % 2 = 0 := by omega
    simp [h0]
theorem and_shr_t {set k : Nat} (h : set < 9223372036854775808) (ht : set.testBit k = true) : (bits .and .i64 ((set : Int) / 2 ^ k) 1 == 1) = true := by
  rw [and_shr set k h, ht]; rfl
theorem and_shr_f {set k : Nat} (h : set < 9223372036854775808) (ht : set.testBit k = false) : (bits .and .i64 ((set : Int) / 2 ^ k) 1 == 1) = false := by
  rw [and_shr set k h, ht]; rfl
theorem or_pow_lt {set x n : Nat} (hs : set < 2 ^ n) (hx : x < n) : set ||| 2 ^ x < 2 ^ n := Nat.or_lt_two_pow hs (Nat.pow_lt_pow_right (by omega) hx)

/- make([]int, n) in this seat's program. -/
theorem info_int0 : (Try.prog.info? 3).map (fun i => (i.zero, i.size, i.bytes)) = some (some (.int .i64 0), 1, 8) := by kernel_rfl
/-- make([]int, n). -/
theorem make_ints (n : Nat) (hn : n ≤ 1000000) (w : World) : (Instr.makeSlice 23 (.int .i64 n) (.int .i64 n)).run Try.prog w = .ok (.slice (some ⟨w.heap.size, 0, none⟩) n n) (w.alloc (.cells (arr (List.replicate n 0)) 3)) := by
  obtain ⟨i0, hi, hz0, hz1, hz2⟩ := info_parts info_int0
  have hr := run_make (P := Try.prog) w 23 3 i0 (.int .i64 0) Try.underlying23 hi hz0 .i64 .i64 n n (by omega) (by omega) (by rw [hz2]; omega) (by omega)
  simp only [Int.toNat_natCast, hz1] at hr
  rw [hr, arr_zeros]


/- The walk of SplitTwo: for two people some division is fair up to any. -/

/-- The first k values of f, the rest 0. -/
def partL (f : Nat → Int) (m k : Nat) : List Int := (List.range m).map fun g => if g < k then f g else 0
theorem partL_length (f : Nat → Int) (m k : Nat) : (partL f m k).length = m := by simp [partL]
theorem partL_zero (f : Nat → Int) (m : Nat) : partL f m 0 = List.replicate m 0 := by
  apply List.ext_getElem?
  intro i
  unfold partL
  by_cases h : i < m
  · simp [h]
  · simp [h]
theorem partL_all (f : Nat → Int) (m : Nat) : partL f m m = (List.range m).map f := by
  unfold partL
  exact List.map_congr_left fun g hg => by rw [if_pos (List.mem_range.1 hg)]
theorem partL_set (f : Nat → Int) (m k : Nat) : (partL f m k).set k (f k) = partL f m (k + 1) := by
  apply List.ext_getElem?
  intro i
  rw [List.getElem?_set]
  unfold partL
  by_cases e : k = i
  · subst e
    by_cases h : k < m <;> simp [h]
  · rw [if_neg e]
    by_cases h : i < m
    · simp only [List.getElem?_map, List.getElem?_range h, Option.map_some]
      congr 1
      by_cases h1 : i < k
      · rw [if_pos h1, if_pos (by omega)]
      · rw [if_neg h1, if_neg (by omega)]
    · simp [h]
theorem bitL_part (set m : Nat) : partL (fun g => if set.testBit g then 1 else 0) m m = bitL set m := partL_all _ _

set_option maxRecDepth 100000 in
set_option maxHeartbeats 3200000 in
theorem law_two (A : Option Addr) (n cap : Nat) (V : List (List Int)) (w : World)
    (hl : V.length = n) (_hc : n ≤ cap) (hm : cap ≤ 9223372036854775807) (hV : Mat w A V) (_hx : ∀ r ∈ V, ∀ x ∈ r, -9223372036854775808 ≤ x ∧ x ≤ 9223372036854775807) :
    Calls Try.prog 7 #[.slice A n cap] w fun e w' => e = .returned (.bool true) ∧ Below w.heap.size w w' := by
  have H := Lib.hid (And.intro hl hV)
  clear hl hV _hx
  by_cases h2 : n = 2
  · subst h2
    have hv := Lib.hid (r1valid_any A 2 cap V w H.out.1 (by omega) H.out.2)
    cases hvv : valV V
    · have HV := Lib.hid hvv
      clear hvv
      go_enter Try.func7, Try.ntmps7
      go_wp2_with fail
      refine hv.out.mono ?_
      rintro e w' ⟨rfl, rfl⟩
      rw [HV.out]
      go_wp2_with fail
      refine (awake_any w).mono ?_
      rintro e w' ⟨rfl, hb⟩
      have HB := Lib.hid hb
      clear hb
      go_wp2_with fail
      go_ret
      exact ⟨rfl, HB.out⟩
    · obtain ⟨m, hm'⟩ : ∃ m, m = (rowV V 0).length := ⟨_, rfl⟩
      have hv1 := valV_iff.1 hvv
      have hm7 : 1 ≤ m ∧ m ≤ 7 := by rw [hm']; exact hv1.2.1
      have hrows : ∀ i, i < 2 → (rowV V i).length = m ∧ ∀ x ∈ rowV V i, 0 ≤ x ∧ x ≤ 100 := by
        intro i hi; exact valV_rows hvv hm' i (by rw [H.out.1]; exact hi)
      obtain ⟨s0, hs0, hf0⟩ := two_exists hm7.2 hrows
      obtain ⟨N2, hN2⟩ : ∃ N2 : Nat, N2 = 2 ^ m := ⟨_, rfl⟩
      have e1 : IntKind.i64.wrap ((2 : Int) ^ m) = (N2 : Int) := by rw [pow_wrap m (by omega), hN2]
      have e2 : wrap64 ((2 : Int) ^ m) = (N2 : Int) := by rw [← wrapEq, e1]
      have hN : N2 < 65536 := by rw [hN2]; exact pow_lt (by omega)
      have hmk := make_ints m (by omega)
      obtain ⟨ad, rfl, _, hcc⟩ := H.out.2.some_ (by rw [H.out.1]; omega)
      obtain ⟨A', c, h1, _⟩ := hcc 0 _ (List.getElem?_eq_getElem (by rw [H.out.1]; omega))
      have er : (V[0]'(by rw [H.out.1]; omega)).length = m := by rw [hm', rowV_get (List.getElem?_eq_getElem (by rw [H.out.1]; omega))]
      rw [er] at h1
      have c0 : w.cell? ad = some (.slice A' m c) := h1
      have HV := Lib.hid (And.intro hvv (And.intro hs0 (And.intro hf0 (And.intro hN2 (And.intro (fewV_ok hvv) hm')))))
      clear hvv hv1 hrows hs0 hf0 hN2 h1 er hcc hm'
      go_enter Try.func7, Try.ntmps7
      go_wp2_with fail
      refine hv.out.mono ?_
      rintro e w' ⟨rfl, rfl⟩
      rw [HV.out.1]
      go_wp2_with fail
      go_loopw [24] (fun sv wr => ∃ s : Nat, s ≤ N2 ∧ sv = .int .i64 s ∧ (∀ t, t < s → fairB V (bitL t m) 2 2 = false) ∧ Below w.heap.size w wr) (fun sv _ => N2 - (intOf sv).toNat)
      case atStart => exact ⟨0, Nat.zero_le _, rfl, fun t ht => by omega, Below.refl _ _⟩
      case round =>
        obtain ⟨s, hs, rfl, hno, hbl⟩ := hrel
        obtain ⟨wo, rfl⟩ : ∃ wo : World, wo = wr := ⟨_, rfl⟩
        have HR := Lib.hid (And.intro hno hbl)
        have hwsz := hbl.size
        clear hno hbl
        by_cases hlt : s < N2
        · have l1 : (s : Int) < (N2 : Int) := by omega
          clear e1 e2
          go_wp2_with fail
          go_loopw [31] (fun gv wr => ∃ g : Nat, g ≤ m ∧ gv = .int .i64 g ∧ Blk wr wo.heap.size 3 (arr (partL (fun g => if s.testBit g then 1 else 0) m g)) ∧ Below wo.heap.size wo wr) (fun gv _ => m - (intOf gv).toNat)
          case atStart => exact ⟨0, Nat.zero_le _, rfl, by rw [partL_zero]; exact Blk.new _ _ _ rfl, (Below.refl _ _).alloc (Nat.le_refl _) _⟩
          case round =>
            obtain ⟨g, hg, rfl, hB, hbl⟩ := hrel
            have HB := Lib.hid (And.intro hB hbl)
            clear hB hbl
            by_cases hltg : g < m
            · have l2 : (g : Int) < (m : Int) := by omega
              obtain ⟨ob, hob⟩ : ∃ ob, (arr (partL (fun g => if s.testBit g then 1 else 0) m g))[g]? = some ob := ⟨_, Array.getElem?_eq_getElem (by rw [arr_size, partL_length]; exact hltg)⟩
              have c3 : wr.cell? ⟨wo.heap.size, g, none⟩ = some ob := by rw [HB.out.1.cell, hob]
              have f3 := HB.out.1.frozen g
              obtain ⟨bv, hbv⟩ : ∃ bv : Int, bv = if s.testBit g then 1 else 0 := ⟨_, rfl⟩
              have hand : bits .and .i64 ((s : Int) / 2 ^ g) 1 = bv := by
                rw [and_shr s g (by omega), hbv]; split <;> rfl
              have HN : Hid ((arr (partL (fun g => if s.testBit g then 1 else 0) m g)).setIfInBounds g (.int .i64 bv) = arr (partL (fun g => if s.testBit g then 1 else 0) m (g + 1))) := Lib.hid (by rw [arr_set, hbv, partL_set (fun g => if s.testBit g then 1 else 0) m g])
              clear hob hbv
              go_wp2_with fail
              go_roundw
              case rel => exact ⟨g + 1, by omega, by go_num, by rw [← HN.out]; exact HB.out.1.set_ g _, HB.out.2.setCell (Nat.le_refl _) _⟩
              case measure => simp [intOf]; omega
            · obtain rfl : g = m := by omega
              have hB := HB.out.1
              rw [bitL_part] at hB
              have hI := blk_ints hB
              have HI := Lib.hid (And.intro hI (HR.out.2.trans (HB.out.2.mono hwsz)))
              clear hB hI
              go_wp2_with fail
              refine (few2_any (some ad) 2 cap V _ H.out.1 (by omega) (H.out.2.below HI.out.2)).mono ?_
              rintro e w2 ⟨A2, q2, c2, rfl, hq, hq6, _, _, hM, hb⟩
              have H2 := Lib.hid (And.intro hq (And.intro hM (And.intro (HI.out.1.below hb) (HI.out.2.trans (hb.mono HI.out.2.size)))))
              clear hq hM hb
              go_wp2_with fail
              refine (sfair0_any A2 (some ⟨wo.heap.size, 0, none⟩) q2 c2 g g 2 (fewV V) (bitL s g) w2 H2.out.1 (by omega) H2.out.2.1 (bitL_length _ _) (by omega) H2.out.2.2.1).mono ?_
              rintro e w3 h3
              unfold FairPost0 at h3
              have hdv : divV V (bitL s g) = true := by
                unfold divV
                rw [Bool.and_eq_true]
                refine ⟨decide_eq_true (by rw [bitL_length]; exact HV.out.2.2.2.2.2), ?_⟩
                rw [Bool.not_eq_true', List.any_eq_false]
                intro x hx
                obtain ⟨k, _, rfl⟩ := List.mem_map.1 hx
                rw [H.out.1]
                unfold badD
                split <;> simp
              rw [HV.out.2.2.2.2.1, HV.out.1, hdv, H.out.1] at h3
              rcases h3 with ⟨hg, _⟩ | ⟨_, rfl, hb3⟩
              · simp at hg
              · have H3 := Lib.hid (H2.out.2.2.2.trans (hb3.mono H2.out.2.2.2.size))
                clear hb3 hdv
                cases hfb : fairB V (bitL s g) 2 2
                · have HN : Hid (∀ t, t < s + 1 → fairB V (bitL t g) 2 2 = false) := Lib.hid (fun t ht => by
                    rcases Nat.lt_succ_iff_lt_or_eq.1 ht with h | h
                    · exact HR.out.1 t h
                    · rw [h]; exact hfb)
                  clear hfb
                  go_wp2_with fail
                  go_roundw
                  case rel => exact ⟨s + 1, by omega, by go_num, HN.out, H3.out⟩
                  case measure => simp [intOf]; omega
                · clear hfb
                  go_wp2_with fail
                  refine (awake2_any w _ H3.out).mono ?_
                  rintro e w4 ⟨rfl, hb4⟩
                  have H4 := Lib.hid hb4
                  clear hb4
                  go_wp2_with fail
                  go_ret
                  exact ⟨rfl, H4.out⟩
        · exfalso
          have := HR.out.1 s0 (by have := HV.out.2.1; have := HV.out.2.2.2.1; omega)
          rw [HV.out.2.2.1] at this
          cases this
  · have hne : ((n : Int) != 2) = true := by rw [bne_iff_ne]; omega
    go_enter Try.func7, Try.ntmps7
    go_wp2_with fail
    refine (awake_any w).mono ?_
    rintro e w' ⟨rfl, hb⟩
    have HB := Lib.hid hb
    clear hb
    go_wp2_with fail
    go_ret
    exact ⟨rfl, HB.out⟩
end Go.Proofs.Ytkljambjdiblkaa
