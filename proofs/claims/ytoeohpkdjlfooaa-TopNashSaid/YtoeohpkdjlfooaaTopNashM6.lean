/- Laws and contracts that the proof of TopNash uses, part 6. -/
import Derived.Test.YtoeohpkdjlfooaaTopNashM5
import Derived.Test.YtoeohpkdjlfooaaTopNashM1
import Derived.Test.YtoeohpkdjlfooaaTopNashM3
import Derived.Test.YtoeohpkdjlfooaaProg
import Derived.Test.YtoeohpkdjlfooaaTopNashM2
import Derived.Deep.DeepCutAuto
import Derived.Deep.RegionLaw
namespace Go.Proofs.Ytoeohpkdjlfooaa
open Go.RowKit

/- TopNash: what Nash's division gives, in the market's words. Plain Lean. -/

theorem mat_s {w : World} {A : Option Addr} {V : List (List Int)} (h : Mat w A V) : MatS w A V := h
theorem valV_of {B : List Int} {V : List (List Int)} (h : validM B V = true) : valV V = true := by
  obtain ⟨⟨a1, a2, a3, a4⟩, b1, b2, b3⟩ := validM_iff.1 h
  refine valV_iff.2 ⟨by omega, ⟨b1.1, by have : (rowVS V 0).length ≤ 3 := b1.2; omega⟩, fun r hr => ?_⟩
  obtain ⟨c1, c2, _⟩ := rowOk_iff.1 (b2 r hr)
  exact ⟨c1, fun x hx => by have := c2 x hx; omega⟩
theorem valid_same {B : List Int} {V : List (List Int)} (h : validM B V = true) : validM (List.replicate B.length (B.getD 0 0)) V = true := by
  obtain ⟨⟨a1, a2, a3, a4⟩, b1, b2, b3⟩ := validM_iff.1 h
  have h0 := a3 (B.getD 0 0) (by
    rw [List.getD_eq_getElem?_getD, List.getElem?_eq_getElem (by omega)]
    exact List.getElem_mem _)
  refine validM_iff.2 ⟨⟨by simpa using a1, by simpa using a2, fun b hb => ?_, by simpa using a4⟩, b1, b2, b3⟩
  rw [List.eq_of_mem_replicate hb]
  exact h0
/-- What everyone has of the first goods. -/
def havT (V : List (List Int)) (d : List Int) (n g : Nat) : List Int := (List.range n).map fun i => worToS (rowVS V i) d (i : Int) g
theorem havT_length (V : List (List Int)) (d : List Int) (n g : Nat) : (havT V d n g).length = n := by simp [havT]
theorem havT_zero (V : List (List Int)) (d : List Int) (n : Nat) : havT V d n 0 = List.replicate n 0 := by
  apply List.ext_getElem?
  intro i
  unfold havT
  rw [List.getElem?_map, List.getElem?_replicate]
  by_cases h : i < n
  · rw [List.getElem?_range h, if_pos h]; rfl
  · rw [List.getElem?_eq_none (by simpa using h), if_neg h]; rfl
theorem havT_get {V : List (List Int)} {d : List Int} {n g i : Nat} (h : i < n) : (havT V d n g)[i]? = some (worToS (rowVS V i) d (i : Int) g) := by simp [havT, h]
theorem havT_set {V : List (List Int)} {d : List Int} {n g x : Nat} (hx : d.getD g 0 = (x : Int)) : (havT V d n g).set x (worToS (rowVS V x) d (x : Int) g + useN V x g) = havT V d n (g + 1) := by
  apply List.ext_getElem?
  intro i
  rw [List.getElem?_set]
  by_cases h : i < n
  · rw [havT_get h, havT_get h]
    by_cases e : x = i
    · subst e
      rw [if_pos rfl, if_pos (by rw [havT_length]; exact h)]
      show _ = some (worToS (rowVS V x) d (x : Int) g + if d.getD g 0 = (x : Int) then (rowVS V x).getD g 0 else 0)
      rw [if_pos hx]; rfl
    · rw [if_neg e]
      show _ = some (worToS (rowVS V i) d (i : Int) g + if d.getD g 0 = (i : Int) then (rowVS V i).getD g 0 else 0)
      rw [if_neg (by omega), Int.add_zero]
  · rw [List.getElem?_eq_none (by rw [havT_length]; omega), List.getElem?_eq_none (by rw [havT_length]; omega)]
    by_cases e : x = i
    · rw [if_pos e, if_neg (by rw [havT_length]; omega)]
    · rw [if_neg e]
theorem havT_own (V : List (List Int)) (d : List Int) (n : Nat) : havT V d n d.length = ownV V d n := rfl
theorem hav_wor {V : List (List Int)} {d : List Int} {n i : Nat} (hd : ∀ x ∈ d, 0 ≤ x ∧ x < n) : ∀ g, g ≤ d.length → hav V (fun g => (d.getD g 0).toNat) g i = ((worToS (rowVS V i) d (i : Int) g : Int) : Rat)
  | 0, _ => rfl
  | g + 1, hg => by
    have ih := hav_wor (V := V) (i := i) hd g (by omega)
    unfold hav at ih ⊢
    simp only [sumQ]
    rw [ih]
    show _ = ((worToS (rowVS V i) d (i : Int) g + (if d.getD g 0 = (i : Int) then (rowVS V i).getD g 0 else 0) : Int) : Rat)
    rw [Rat.intCast_add]
    have hb := hd (d.getD g 0) (by
      rw [List.getD_eq_getElem?_getD, List.getElem?_eq_getElem (by omega)]
      exact List.getElem_mem _)
    congr 1
    by_cases e : d.getD g 0 = (i : Int)
    · rw [if_pos e, one_t (by omega), Rat.one_mul]; rfl
    · rw [if_neg e, one_f (by omega), Rat.zero_mul]; rfl
theorem posP_prod {V : List (List Int)} {d : List Int} : ∀ n, (∀ i, i < n → 0 < wor V d i (i : Int)) → ((posP (ownV V d n) : Int) : Rat) = prodQ (fun i => ((wor V d i (i : Int) : Int) : Rat)) n
  | 0, _ => rfl
  | n + 1, h => by
    rw [ownV_succ, posP_snoc, if_pos (h n (by omega)), Rat.intCast_mul, posP_prod n fun i hi => h i (by omega)]
    rfl
section
variable {B : List Int} {V : List (List Int)} {r : List Rat × List (List Rat)} {b : Int}
/-- If all have something, Nash's product is at most that of the worths in balance. -/
theorem nash_top (hv : validM B V = true) (h : SolR B V B.length (goodsN V) r) (hb : ∀ i, i < B.length → B.getD i 0 = b) {d : List Int} (hl : d.length = goodsN V) (hd : ∀ x ∈ d, 0 ≤ x ∧ x < (B.length : Int)) (h0 : (0 : Int) ∉ ownV V d B.length) :
    ((posP (ownV V d B.length) : Int) : Rat) ≤ prodQ (fun i => worTo V r.1 r.2 i (goodsN V)) B.length := by
  have hpos : ∀ i, i < B.length → 0 < wor V d i (i : Int) := fun i hi => by
    have h1 : 0 ≤ wor V d i (i : Int) := by
      have hrow : ∀ x ∈ rowVS V i, 0 ≤ x ∧ x ≤ 100 := by
        obtain ⟨_, _, h3⟩ := valV_iff.1 (valV_of hv)
        have hiV : i < V.length := by rw [(validM_iff.1 hv).1.2.2.2]; exact hi
        have e : rowVS V i = V[i]'hiV := rowV_getS (List.getElem?_eq_getElem hiV)
        rw [e]
        exact (h3 _ (List.getElem_mem hiV)).2
      exact (worTo_bd hrow d (i : Int) d.length).1
    have h2 : wor V d i (i : Int) ≠ 0 := fun h2 => h0 (by
      rw [← h2]
      exact List.mem_of_getElem? (ownV_get hi))
    omega
  rw [posP_prod _ hpos]
  have e : ∀ i, i < B.length → ((wor V d i (i : Int) : Int) : Rat) = hav V (fun g => (d.getD g 0).toNat) (goodsN V) i := fun i hi => by
    rw [← hl, hav_wor hd d.length (Nat.le_refl _)]; rfl
  rw [prodQ_congr e]
  refine nash_le hv h hb _ (fun g hg => ?_) fun i hi => ?_
  · have hb := hd (d.getD g 0) (by
      rw [List.getD_eq_getElem?_getD, List.getElem?_eq_getElem (by omega)]
      exact List.getElem_mem _)
    omega
  · rw [← e i hi]
    exact_mod_cast hpos i hi
end
theorem mulT_bd {p q : Rat} (hp : 0 < p) (hq : 0 < q) : 1 ≤ (p * q).num ∧ (p * q).num ≤ p.num * q.num ∧ ((p * q).den : Int) ≤ p.den * q.den := by
  have hpd := den_pos p
  have hqd := den_pos q
  have h0 : 0 < (p.den : Int) * q.den := Int.mul_pos hpd hqd
  have hp1 := q_pos.1 hp
  have hq1 := q_pos.1 hq
  have e : p * q = ((p.num * q.num : Int) : Rat) / (((p.den : Int) * q.den : Int) : Rat) := by
    rw [Rat.intCast_mul, Rat.intCast_mul]
    have hp' := num_den_of p
    have hq' := num_den_of q
    have a1 : ((p.den : Int) : Rat) ≠ 0 := rat_ne (by omega)
    have a2 : ((q.den : Int) : Rat) ≠ 0 := rat_ne (by omega)
    clear hp hq hp1 hq1
    generalize ((p.den : Int) : Rat) = pd at *
    generalize ((q.den : Int) : Rat) = qd at *
    generalize (p.num : Rat) = pn at *
    generalize (q.num : Rat) = qn at *
    subst hp'
    subst hq'
    grind
  have h1 : 0 ≤ p.num * q.num := Int.mul_nonneg (by omega) (by omega)
  have h4 := frac_bd h0 e
  have h6 := q_pos.1 (Rat.mul_pos hp hq)
  generalize p.num * q.num = a at *
  generalize (p.den : Int) * q.den = c at *
  omega
theorem prod_sz {f : Nat → Rat} {n : Nat} (hn : n ≤ 3) (h : ∀ i, i < n → WoT (f i)) : ∀ i, i ≤ n → 0 < prodQ f i ∧ (prodQ f i).num ≤ 24000 ^ i ∧ ((prodQ f i).den : Int) ≤ 3600 ^ i
  | 0, _ => ⟨(by decide : (0 : Rat) < 1), (by decide : (1 : Rat).num ≤ 24000 ^ 0), (by decide : (((1 : Rat).den : Nat) : Int) ≤ 3600 ^ 0)⟩
  | i + 1, hi => by
    obtain ⟨h1, h2, h3⟩ := prod_sz hn h i (by omega)
    obtain ⟨w1, w2, w3⟩ := h i (by omega)
    have hf : 0 < f i := q_pos.2 (by omega)
    obtain ⟨m1, m2, m3⟩ := mulT_bd h1 hf
    have hp1 := q_pos.1 h1
    have hd1 := den_pos (prodQ f i)
    have hd2 := den_pos (f i)
    refine ⟨Rat.mul_pos h1 hf, Int.le_trans m2 ?_, Int.le_trans m3 ?_⟩
    · rw [Int.pow_succ]
      exact Int.mul_le_mul h2 w2 (by omega) (Int.pow_nonneg (by omega))
    · rw [Int.pow_succ]
      exact Int.mul_le_mul h3 w3 (by omega) (Int.pow_nonneg (by omega))
theorem pow_le3 {a : Int} (ha : 1 ≤ a) {i : Nat} (hi : i ≤ 3) : a ^ i ≤ a ^ 3 := by
  have h1 : 1 ≤ a * a := by have := Int.mul_le_mul ha ha (by omega) (by omega); omega
  have h2 : a ≤ a * a := by have := Int.mul_le_mul ha (Int.le_refl a) (by omega) (by omega); omega
  have h3 : a * a ≤ a * a * a := by have := Int.mul_le_mul (Int.le_refl (a * a)) ha (by omega) (by omega); omega
  match i, hi with
  | 0, _ => rw [Int.pow_zero, show a ^ 3 = a * a * a by rw [Int.pow_succ, Int.pow_succ, Int.pow_succ]; simp]; omega
  | 1, _ => rw [show a ^ 3 = a * a * a by rw [Int.pow_succ, Int.pow_succ, Int.pow_succ]; simp, show a ^ 1 = a by rw [Int.pow_succ]; simp]; omega
  | 2, _ => rw [show a ^ 3 = a * a * a by rw [Int.pow_succ, Int.pow_succ, Int.pow_succ]; simp, show a ^ 2 = a * a by rw [Int.pow_succ, Int.pow_succ]; simp]; omega
  | 3, _ => exact Int.le_refl _
theorem prod_bd {f : Nat → Rat} {n : Nat} (hn : n ≤ 3) (h : ∀ i, i < n → WoT (f i)) {i : Nat} (hi : i ≤ n) : 0 < prodQ f i ∧ (1 ≤ (prodQ f i).num ∧ (prodQ f i).num ≤ 13824000000000) ∧ ((prodQ f i).den : Int) ≤ 46656000000 := by
  obtain ⟨h1, h2, h3⟩ := prod_sz hn h i hi
  have h4 := pow_le3 (a := 24000) (by omega) (i := i) (by omega)
  have h5 := pow_le3 (a := 3600) (by omega) (i := i) (by omega)
  have h6 := q_pos.1 h1
  have e1 : (24000 : Int) ^ 3 = 13824000000000 := by decide
  have e2 : (3600 : Int) ^ 3 = 46656000000 := by decide
  rw [e1] at h4
  rw [e2] at h5
  refine ⟨h1, ⟨by omega, by omega⟩, by omega⟩
theorem tmul_use {f : Nat → Rat} {n : Nat} (hn : n ≤ 3) (h : ∀ i, i < n → WoT (f i)) {i : Nat} (hi : i < n) (w : World) :
    Calls Try.prog 9 #[.agg #[.int .i64 (prodQ f i).num, .int .i64 ((prodQ f i).den : Int)], .agg #[.int .i64 (f i).num, .int .i64 ((f i).den : Int)]] w fun e w' => e = .returned (.agg #[.int .i64 (prodQ f (i + 1)).num, .int .i64 ((prodQ f (i + 1)).den : Int)]) ∧ Below w.heap.size w w' := by
  obtain ⟨h1, h2, h3⟩ := prod_bd hn h (Nat.le_of_lt hi)
  obtain ⟨w1, w2, w3⟩ := h i hi
  have hd1 := den_pos (prodQ f i)
  have hd2 := den_pos (f i)
  have m1 : 0 ≤ (prodQ f i).num * (f i).num := Int.mul_nonneg (by omega) (by omega)
  have m2 : (prodQ f i).num * (f i).num ≤ 13824000000000 * 24000 := Int.mul_le_mul h2.2 w2 (by omega) (by omega)
  have m3 : ((prodQ f i).den : Int) * (f i).den ≤ 46656000000 * 3600 := Int.mul_le_mul h3 w3 (by omega) (by omega)
  exact rmul_raw (prodQ f i) (f i) w (by omega) (by omega) (by omega)
/-- Less of the product and Nash's. -/
theorem tless_use {q : Rat} {z : Int} (hq : 0 < q ∧ (1 ≤ q.num ∧ q.num ≤ 13824000000000) ∧ (q.den : Int) ≤ 46656000000) (hz : 1 ≤ z) (hle : (z : Rat) ≤ q) (w : World) :
    Calls Try.prog 11 #[.agg #[.int .i64 q.num, .int .i64 (q.den : Int)], .agg #[.int .i64 z, .int .i64 1]] w fun e w' => e = .returned (.bool false) ∧ Below w.heap.size w w' := by
  have hd := den_pos q
  have h1 := (Rat.le_iff (z : Rat) q).1 hle
  rw [Rat.num_intCast, Rat.den_intCast] at h1
  have h2 : z * (q.den : Int) ≤ q.num := by simpa using h1
  have h3 : 0 ≤ z * (q.den : Int) := Int.mul_nonneg (by omega) (by omega)
  have e : decide (q < (z : Rat)) = false := decide_eq_false (Rat.not_lt.2 hle)
  have h := rless_any q (z : Rat) w (by rw [Rat.den_intCast]; simp; omega) (by rw [Rat.den_intCast]; simp; omega) (by rw [Rat.num_intCast]; omega) (by rw [Rat.num_intCast]; omega)
  rw [e] at h
  exact h
theorem tof_use {z : Int} (hz : 1 ≤ z ∧ z ≤ 1000000000) (w : World) : Calls Try.prog 12 #[.int .i64 z, .int .i64 1] w fun e w' => e = .returned (.agg #[.int .i64 z, .int .i64 1]) ∧ Below w.heap.size w w' := by
  have h := rof_any z 1 w (by omega) (by omega) (by omega) (by omega)
  have e : Rat.divInt z 1 = (z : Rat) := by
    rw [Rat.divInt_eq_div]
    show (z : Rat) / ((1 : Int) : Rat) = _
    rw [Rat.div_def]
    have h1 : ((1 : Int) : Rat) = 1 := rfl
    rw [h1]
    generalize (z : Rat) = x
    grind
  rw [e] at h
  exact h

/- Rows of ints that a call owns and may write. No program. -/

/-- Rows of ints that the call owns, each in a later block than those before it. -/
def ORows (w : World) (base : Nat) (vs : List Value) (L : List (List Int)) : Prop :=
  vs.length = L.length ∧ (∀ (j : Nat) (os : List Int), L[j]? = some os → ∃ A c, vs[j]? = some (.slice A os.length c) ∧ w.ownsRow base 3 1 (.slice A os.length c) os.length (os.map (Value.int .i64))) ∧
  ∀ (i j : Nat) (a b : Addr) (n c n' c' : Nat), i < j → vs[i]? = some (.slice (some a) n c) → vs[j]? = some (.slice (some b) n' c') → a.block < b.block

theorem own_ne {w : World} {base base' n n' : Nat} {v v' : Value} {xs ys : List Value} (h : w.ownsRow base 3 1 v n xs) (h' : w.ownsRow base' 22 1 v' n' ys) (hs : v.ownBlock.isSome) : v.ownBlock ≠ v'.ownBlock := by
  intro he
  rcases h.2 with ⟨h0, _⟩ | ⟨g, cap, cur, hv, _, hg, _⟩
  · subst h0; cases hs
  · rcases h'.2 with ⟨h0, _⟩ | ⟨g', cap', cur', hv', _, hg', _⟩
    · subst h0; subst hv; cases he
    · subst hv; subst hv'
      injection he with he
      have : g = g' := he
      subst this
      rw [hg] at hg'
      injection hg' with h1
      injection h1 with _ h1 _
      exact absurd h1 (by decide)
theorem own_grown_ne {w w' : World} {base base' n n' : Nat} {v v' : Value} {xs ys : List Value} (h : w.ownsRow base 3 1 v n xs) (h' : w.ownsRow base' 22 1 v' n' ys) (hg : w.grownBy w' v'.ownBlock) : w'.ownsRow base 3 1 v n xs := by
  refine ⟨h.1, ?_⟩
  rcases h.2 with h0 | ⟨g, cap, cur, hv, a1, a2, a3⟩
  · exact .inl h0
  · refine .inr ⟨g, cap, cur, hv, a1, ?_, a3⟩
    have hne := own_ne h h' (by rw [hv]; rfl)
    rw [hv] at hne
    exact (hg.block g (lt_of_block a2) hne).trans a2
section
variable {w w' : World} {base : Nat} {vs : List Value} {L : List (List Int)}
theorem ORows.nil (w : World) (base : Nat) : ORows w base [] [] := ⟨rfl, fun j os h => by simp at h, fun i j a b n c n' c' _ h => by simp at h⟩
theorem ORows.below (h : ORows w base vs L) (hb : Below w.heap.size w w') : ORows w' base vs L :=
  ⟨h.1, fun j os hj => by obtain ⟨A, c, h1, h2⟩ := h.2.1 j os hj; exact ⟨A, c, h1, own_below h2 hb⟩, h.2.2⟩
theorem ORows.grown {base' n : Nat} {v' : Value} {xs : List Value} (h : ORows w base vs L) (hown : w.ownsRow base' 22 1 v' n xs) (hg : w.grownBy w' v'.ownBlock) : ORows w' base vs L :=
  ⟨h.1, fun j os hj => by obtain ⟨A, c, h1, h2⟩ := h.2.1 j os hj; exact ⟨A, c, h1, own_grown_ne h2 hown hg⟩, h.2.2⟩
theorem ORows.lt (h : ORows w base vs L) : ∀ (i : Nat) (a : Addr) (n c : Nat), vs[i]? = some (.slice (some a) n c) → a.block < w.heap.size := by
  intro i a n c hi
  have hil : i < L.length := by rw [← h.1]; exact (List.getElem?_eq_some_iff.1 hi).1
  obtain ⟨A, c', h1, h2⟩ := h.2.1 i _ (List.getElem?_eq_getElem hil)
  rw [h1] at hi
  injection hi with hi
  injection hi with e1 _ _
  subst e1
  rcases h2.2 with ⟨h0, _⟩ | ⟨g, cap, cur, hv, _, hg, _⟩
  · cases h0
  · injection hv with e1 _ _
    injection e1 with e1
    subst e1
    exact lt_of_block hg
theorem ORows.snoc {w2 : World} {b2 : Nat} {A : Option Addr} {c : Nat} {os : List Int} (h : ORows w2 base vs L) (hb : base ≤ b2) (hown : w2.ownsRow b2 3 1 (.slice A os.length c) os.length (os.map (Value.int .i64)))
    (hlt : ∀ (i : Nat) (a : Addr) (n c : Nat), vs[i]? = some (.slice (some a) n c) → a.block < b2) : ORows w2 base (vs ++ [.slice A os.length c]) (L ++ [os]) := by
  refine ⟨by simp [h.1], fun j r hj => ?_, fun i j a b n c1 n' c2 hij hi hj => ?_⟩
  · by_cases hl : j < L.length
    · rw [List.getElem?_append_left hl] at hj
      rw [List.getElem?_append_left (by rw [h.1]; exact hl)]
      exact h.2.1 j r hj
    · have hj' : j = L.length := by
        have := (List.getElem?_eq_some_iff.1 hj).1
        simp at this; omega
      subst hj'
      rw [List.getElem?_append_right (Nat.le_refl _)] at hj
      simp at hj
      subst hj
      refine ⟨A, c, by rw [List.getElem?_append_right (by rw [h.1]; exact Nat.le_refl _)]; simp [h.1], hown.1, ?_⟩
      rcases hown.2 with h0 | ⟨g, cap, cur, hv, a1, a2⟩
      · exact .inl h0
      · exact .inr ⟨g, cap, cur, hv, by omega, a2⟩
  · have hjl := (List.getElem?_eq_some_iff.1 hj).1
    simp at hjl
    rw [List.getElem?_append_left (by omega)] at hi
    by_cases hl : j < vs.length
    · rw [List.getElem?_append_left hl] at hj
      exact h.2.2 i j a b n c1 n' c2 hij hi hj
    · have : j = vs.length := by omega
      subst this
      rw [List.getElem?_append_right (Nat.le_refl _)] at hj
      simp at hj
      obtain ⟨e1, e2, e3⟩ := hj
      subst e1
      have h1 := hlt i a n c1 hi
      rcases hown.2 with ⟨h0, _⟩ | ⟨g, cap, cur, hv, a1, _⟩
      · cases h0
      · injection hv with e1 _ _
        injection e1 with e1
        subst e1
        show a.block < g
        omega
theorem ORows.rows (h : ORows w base vs L) : Rows w 0 vs L :=
  ⟨h.1, fun j os hj => by obtain ⟨A, c, h1, h2⟩ := h.2.1 j os hj; exact ⟨_, h1, Row1.of_own h2 0⟩⟩
end

/- make([]int, n) in this seat's program. -/
theorem info_int0 : (Try.prog.info? 3).map (fun i => (i.zero, i.size, i.bytes)) = some (some (.int .i64 0), 1, 8) := by kernel_rfl
/-- make([]int, n). -/
theorem make_ints (n : Nat) (hn : n ≤ 1000000) (w : World) : (Instr.makeSlice 22 (.int .i64 n) (.int .i64 n)).run Try.prog w = .ok (.slice (some ⟨w.heap.size, 0, none⟩) n n) (w.alloc (.cells (arr (List.replicate n 0)) 3)) := by
  obtain ⟨i0, hi, hz0, hz1, hz2⟩ := info_parts info_int0
  have hr := run_make (P := Try.prog) w 22 3 i0 (.int .i64 0) Try.underlying22 hi hz0 .i64 .i64 n n (by omega) (by omega) (by rw [hz2]; omega) (by omega)
  simp only [Int.toNat_natCast, hz1] at hr
  rw [hr, arr_zeros]


/- Append of one element: the slice that was appended to stays what it was. -/

theorem run_keep {T e : TypeId} {z : Value} {bytes : Nat} (ty : STy T e z 1 bytes) (rt : TypeId) {w w' : World} {base : Nat} {v v' : Value} {n : Nat} {xs : List Value} (hown : w.ownsRow base e 1 v n xs)
    {a : Addr} {m c : Nat} {news : List Value} (hl : news.length = m * 1) (hnews : ∀ j u, news[j]? = some u → w.cell? (a.add j) = some u) (h1 : ∀ u ∈ news, u.oneCell' = true)
    (hn : n + m ≤ 1000000) (hr : (Builtin.append_ #[T, T] rt #[v, .slice (some a) m c]).run Try.prog w = .ok v' w') (hown' : w'.ownsRow base e 1 v' (n + m) (xs ++ news)) (hm : 0 < m) : w'.ownsRow base e 1 v n xs := by
  obtain ⟨i0, hi, hz0, hz1, hz2⟩ := info_parts ty.inf
  have hb : (n + m) * i0.bytes ≤ 140737488355328 := by
    have h2 := ty.hby
    rw [hz2]
    calc (n + m) * bytes ≤ 1000000 * 100 := Nat.mul_le_mul (by omega) h2
      _ ≤ _ := by decide
  have hxl : xs.length = n := by have := hown.1; omega
  rcases hown.2 with ⟨rfl, rfl⟩ | ⟨g, cap, cur, rfl, hbg, hg, hnc, hcm, hcs, htake⟩
  · exact ⟨hown.1, .inl ⟨rfl, rfl⟩⟩
  · by_cases hroom : n + m ≤ cap
    · have hfit : n * i0.size + news.length ≤ cur.size := by rw [hz1, hl, hcs]; omega
      have h := run_append_room (P := Try.prog) w T rt e i0 ty.ht hi g n cap cur hg a m c news (by rw [hz1]; exact hl) hnews h1 hroom hfit
      rw [h] at hr
      injection hr with hr _
      rw [← hr] at hown'
      rcases hown'.2 with ⟨h0, _⟩ | ⟨g', cap', cur', hv, hbg', hg', hnc', hcm', hcs', htake'⟩
      · cases h0
      · injection hv with e1 _ e3
        injection e1 with e1
        injection e1 with e1
        subst e1; subst e3
        refine ⟨hown.1, .inr ⟨g, cap, cur', rfl, hbg, hg', hnc, hcm, hcs', ?_⟩⟩
        rw [Nat.mul_one] at htake' ⊢
        have h3 := congrArg (List.take n) htake'
        rwa [List.take_take, Nat.min_eq_left (by omega), List.take_left' hxl] at h3
    · have holds : ∀ j u, xs[j]? = some u → w.cell? ((⟨g, 0, none⟩ : Addr).add j) = some u := hown.cells (g := g) rfl
      have h := run_append_grow (P := Try.prog) w T rt e i0 z ty.ht hi hz0 ⟨g, 0, none⟩ n cap xs (by rw [hz1]; exact hown.1) holds a m c news (by rw [hz1]; exact hl) hnews (by omega) (by omega) (growslice_fits (by omega) hb)
      rw [h] at hr
      injection hr with _ hr
      rw [← hr]
      exact hown.alloc _

theorem step_app1k {T e : TypeId} {z : Value} {bytes : Nat} (ty : STy T e z 1 bytes) {ops : Array Oper} {o : Oper} {a : Act} {K : Act → World → Prop} {Q : Exit → Act → World → Prop} {E : Prop} {w : World}
    (s x : Operand) (ho : o.op = .call { callee := .builtin .append, args := #[s, x], argTypes := #[T, T] }) (hwant : Region.wanted o (yielded ops a.tmps) = true)
    (base : Nat) (A : Option Addr) (n k : Nat) (xs : List Value) (u : Value) (h1 : u.oneCell' = true)
    (hs : a.eval s = .slice A n k) (hown : w.ownsRow base e 1 (.slice A n k) n xs) (hx : a.eval x = .slice (some ⟨w.heap.size, 0, none⟩) 1 1)
    (hn : n ≤ 100000) (hb : base ≤ w.heap.size)
    (h : ∀ (A' : Option Addr) (k' : Nat) (w' : World), w'.ownsRow base e 1 (.slice A' (n + 1) k') (n + 1) (xs ++ [u]) → w.grownBy w' (Value.slice A n k).ownBlock → Below base w w' → n + 1 ≤ k' → k' ≤ 9223372036854775807 → Stay w (.slice A' (n + 1) k') (.slice A n k) → w'.ownsRow base e 1 (.slice A n k) n xs →
      K (a.put o.dst (.slice A' (n + 1) k')) w') : if Region.wanted o (yielded ops a.tmps) = true then Oper.wp Try.prog o a (w.alloc (.cells #[u] e)) K Q else E := by
  rw [if_pos hwant]
  obtain ⟨i0, hi, hz0, hz1, hz2⟩ := info_parts ty.inf
  have hnews : ∀ j x, [u][j]? = some x → (w.alloc (.cells #[u] e)).cell? ((⟨w.heap.size, 0, none⟩ : Addr).add j) = some x := by
    intro j x hx
    exact (At.some2 (Blk.new w e #[u] rfl).at_) j x hx
  have hbytes : (n + 1) * bytes ≤ 140737488355328 := by
    have h2 := ty.hby
    calc (n + 1) * bytes ≤ 1000000 * 100 := Nat.mul_le_mul (by omega) h2
      _ ≤ _ := by decide
  have hone : ∀ x ∈ [u], x.oneCell' = true := by intro x hx; rw [List.mem_singleton.1 hx]; exact h1
  obtain ⟨v', w', hr, hown', hg, _⟩ := run_append_own (P := Try.prog) (w.alloc (.cells #[u] e)) base T o.type e i0 z 1 bytes ty.ht hi hz0 hz1 hz2 ty.hzs ty.hsz (.slice A n k) n xs (hown.alloc _)
    ⟨w.heap.size, 0, none⟩ 1 1 [u] rfl hnews hone (by unfold maxLen; omega) hbytes (by go_size)
  have hst := run_where ty o.type (hown.alloc _) (m := 1) rfl hnews hone (by omega) hr (by omega)
  have hkp := run_keep ty o.type (hown.alloc _) (m := 1) rfl hnews hone (by omega) hr hown' (by omega)
  unfold Oper.wp execOp
  simp only [ho, resolve, invoke, builtin, Sem.run_bind, Sem.run_pure, Result.andThen_ok, List.map_toArray, List.map_cons, List.map_nil, hs, hx, hr]
  obtain ⟨A', k', rfl, hk, hk', _⟩ := own_form hown'
  have hg' : w.grownBy w' (Value.slice A n k).ownBlock :=
    ⟨hg.os, hg.tape, hg.output, Nat.le_trans (by simp) hg.size, fun b hb hne => (hg.block b (Nat.lt_of_lt_of_le hb (by simp)) hne).trans (Below.heap_alloc w _ b hb)⟩
  refine h A' k' w' hown' hg' ?_ hk hk' ?_ hkp
  · refine ⟨hg'.os, hg'.tape, hg'.output, hg'.size, fun b hb' => hg'.block b (by omega) fun he => ?_⟩
    have := (hown.lt b he.symm).1
    omega
  · intro ad' n' k'' he
    rcases hst ad' n' k'' he with h | h
    · exact .inl h
    · exact .inr (Nat.le_trans (by simp) h)

/- The memory of TopNash: a market with equal budgets and a copy of its uses. -/

theorem orows_mat {w : World} {base q c : Nat} {A : Option Addr} {vs : List Value} {L : List (List Int)} (h : ORows w base vs L) (ho : w.ownsRow base 22 1 (.slice A q c) q vs) : Mat w A L := by
  intro j r hj
  obtain ⟨A', c', hv, hown⟩ := h.2.1 j r hj
  obtain ⟨ad, hA, hc⟩ := At.of_own ho j _ hv
  obtain ⟨_, _, he, h1, h2, _⟩ := own_form hown
  injection he with e1 _ e3
  subst e1; subst e3
  exact ⟨ad, A', c', hA, hc, h1, h2, At.of_own hown⟩
theorem own_low {w : World} {base e size n : Nat} {v : Value} {xs : List Value} (h : w.ownsRow base e size v n xs) {p : Addr} (hp : p.block < base) (u : Value) : (w.setCell p u).ownsRow base e size v n xs := by
  obtain ⟨h1, h2⟩ := h
  refine ⟨h1, ?_⟩
  rcases h2 with h2 | ⟨g, cap, cur, hv, a1, a2, a3⟩
  · exact .inl h2
  · exact .inr ⟨g, cap, cur, hv, a1, (Below.heap_setCell w p u g (by omega)).trans a2, a3⟩
theorem orows_low {w : World} {base : Nat} {vs : List Value} {L : List (List Int)} (h : ORows w base vs L) {p : Addr} (hp : p.block < base) (u : Value) : ORows (w.setCell p u) base vs L :=
  ⟨h.1, fun j os hj => by obtain ⟨A, c, h1, h2⟩ := h.2.1 j os hj; exact ⟨A, c, h1, own_low h2 hp u⟩, h.2.2⟩
theorem orows_drewN {w : World} {base : Nat} {vs : List Value} {L : List (List Int)} (h : ORows w base vs L) (m : Nat) : ORows (w.drewN m) base vs L := h
/-- The budgets while they are laid. -/
def budT (n : Nat) (b : Int) (i : Nat) : List Int := List.replicate i b ++ List.replicate (n - i) 0
theorem budT_zero (n : Nat) (b : Int) : budT n b 0 = List.replicate n 0 := by simp [budT]
theorem budT_all (n : Nat) (b : Int) : budT n b n = List.replicate n b := by simp [budT]
theorem budT_set {n i : Nat} (b : Int) (h : i < n) : (budT n b i).set i b = budT n b (i + 1) := by
  apply List.ext_getElem?
  intro j
  unfold budT
  rw [List.getElem?_set]
  by_cases e : i = j
  · subst e
    rw [if_pos rfl, if_pos (by simp; omega), List.getElem?_append_left (by simp), List.getElem?_replicate, if_pos (by omega)]
  · rw [if_neg e]
    by_cases hj : j < i
    · rw [List.getElem?_append_left (by simpa using hj), List.getElem?_append_left (by simp; omega), List.getElem?_replicate, List.getElem?_replicate, if_pos hj, if_pos (by omega)]
    · rw [List.getElem?_append_right (by simp; omega), List.getElem?_append_right (by simp; omega), List.getElem?_replicate, List.getElem?_replicate]
      simp only [List.length_replicate]
      by_cases h2 : j < n
      · rw [if_pos (by omega), if_pos (by omega)]
      · rw [if_neg (by omega), if_neg (by omega)]
/-- What TopNash holds while it copies. -/
structure TnM (w0 w : World) (bs gx gB n : Nat) (b : Int) (V : List (List Int)) (ib iu iv : Nat) (U : Option Addr) (uc : Nat) (vs : List Value) (D : Option Addr) (dc : Nat) (us : List Value) : Prop where
  box : Blk w gx 28 #[.slice (some ⟨gB, 0, none⟩) n n, .slice U iu uc]
  bud : Blk w gB 3 (arr (budT n b ib))
  use : w.ownsRow bs 22 1 (.slice U iu uc) iu vs
  rows : ORows w bs vs (V.take iu)
  cpy : w.ownsRow bs 22 1 (.slice D iv dc) iv us
  cpr : ORows w bs us (V.take iv)
  sep : ∀ x y, U = some x → D = some y → x.block ≠ y.block
  low : w0.heap.size ≤ gx ∧ gx < bs ∧ w0.heap.size ≤ gB ∧ gB < bs ∧ bs ≤ w.heap.size
  below : Below w0.heap.size w0 w
theorem lt_of_own {w : World} {bs n c : Nat} {ad : Addr} {vs : List Value} (h : w.ownsRow bs 22 1 (.slice (some ad) n c) n vs) : ad.block < w.heap.size := by
  rcases h.2 with ⟨h0, _⟩ | ⟨g, cap, cur, hv, _, hg, _⟩
  · cases h0
  · injection hv with e1 _ _
    injection e1 with e1
    subst e1
    exact lt_of_block hg
section
variable {w0 w w3 w9 : World} {bs gx gB n ib iu iv uc dc : Nat} {b : Int} {V : List (List Int)} {U D : Option Addr} {vs us : List Value}
theorem TnM.ne (h : TnM w0 w bs gx gB n b V ib iu iv U uc vs D dc us) : gx ≠ gB := h.box.ne_ h.bud (by decide)
theorem TnM.drewN (h : TnM w0 w bs gx gB n b V ib iu iv U uc vs D dc us) (m : Nat) : TnM w0 (w.drewN m) bs gx gB n b V ib iu iv U uc vs D dc us :=
  ⟨h.box, h.bud, h.use, h.rows, h.cpy, h.cpr, h.sep, h.low, below_drewN h.below m⟩
theorem TnM.next (h : TnM w0 w bs gx gB n b V ib iu iv U uc vs D dc us) (hb : Below w.heap.size w w3) : TnM w0 w3 bs gx gB n b V ib iu iv U uc vs D dc us :=
  ⟨h.box.below hb h.box.lt, h.bud.below hb h.bud.lt, own_below h.use hb, h.rows.below hb, own_below h.cpy hb, h.cpr.below hb, h.sep, by have := hb.size; have := h.low; omega, h.below.trans (hb.mono h.below.size)⟩
theorem TnM.budget (h : TnM w0 w bs gx gB n b V ib iu iv U uc vs D dc us) (hi : ib < n) : TnM w0 (w.setCell ⟨gB, ib, none⟩ (.int .i64 b)) bs gx gB n b V (ib + 1) iu iv U uc vs D dc us := by
  obtain ⟨l1, l2, l3, l4, l5⟩ := h.low
  refine ⟨h.box.far h.ne _, ?_, own_low h.use l4 _, orows_low h.rows l4 _, own_low h.cpy l4 _, orows_low h.cpr l4 _, h.sep, by simp [World.setCell]; omega, h.below.setCell l3 _⟩
  have := h.bud.set_ ib (.int .i64 b)
  rw [arr_set, budT_set b hi] at this
  exact this
theorem TnM.uses (h : TnM w0 w bs gx gB n b V ib iu iv U uc vs D dc us) {r : List Int} (hr : V[iu]? = some r) {A3 : Option Addr} {c3 : Nat} (hb3 : Below w.heap.size w w3) (hown3 : w3.ownsRow w.heap.size 3 1 (.slice A3 r.length c3) r.length (r.map (Value.int .i64)))
    {A9 : Option Addr} {k9 : Nat} (hown9 : w9.ownsRow bs 22 1 (.slice A9 (iu + 1) k9) (iu + 1) (vs ++ [.slice A3 r.length c3])) (hg : w3.grownBy w9 (Value.slice U iu uc).ownBlock) (hb9 : Below bs w3 w9) (hst : Stay w3 (.slice A9 (iu + 1) k9) (.slice U iu uc)) :
    TnM w0 (w9.setCell ⟨gx, 1, none⟩ (.slice A9 (iu + 1) k9)) bs gx gB n b V ib (iu + 1) iv A9 k9 (vs ++ [.slice A3 r.length c3]) D dc us := by
  have h3 := h.next hb3
  obtain ⟨l1, l2, l3, l4, l5⟩ := h.low
  have h3s := hb3.size
  have h9s := hb9.size
  have hsn := (h.rows.below hb3).snoc (b2 := w.heap.size) l5 hown3 h.rows.lt
  have ht : V.take (iu + 1) = V.take iu ++ [r] := by rw [List.take_add_one, hr]; rfl
  rw [← ht] at hsn
  have hsepU : ∀ ad, D = some ad → ad.block < w3.heap.size → w9.heap[ad.block]? = w3.heap[ad.block]? := fun ad he hlt => hg.block _ hlt fun hh => by
    cases hU : U with
    | none => rw [hU] at hh; cases hh
    | some x =>
      rw [hU] at hh
      injection hh with hh
      exact h.sep x ad hU he hh.symm
  refine ⟨?_, (h3.bud.below hb9 l4).far h.ne.symm _, own_low hown9 l2 _, orows_low (hsn.grown h3.use hg) l2 _, own_low (own_same h3.cpy hsepU) l2 _, orows_low (h3.cpr.grown h3.use hg) l2 _, ?_, by simp [World.setCell]; omega, (h3.below.trans (hb9.mono (by omega))).setCell l1 _⟩
  · exact (h3.box.below hb9 l2).set_ 1 _
  · intro x y hx hy
    subst hx
    rcases hst x _ _ rfl with ⟨n1, k1, he⟩ | hge
    · injection he with e1 _ _
      exact h.sep x y e1 hy
    · subst hy
      have := lt_of_own h3.cpy
      omega
theorem TnM.copy (h : TnM w0 w bs gx gB n b V ib iu iv U uc vs D dc us) {r : List Int} (hr : V[iv]? = some r) {A3 : Option Addr} {c3 : Nat} (hb3 : Below w.heap.size w w3) (hown3 : w3.ownsRow w.heap.size 3 1 (.slice A3 r.length c3) r.length (r.map (Value.int .i64)))
    {A9 : Option Addr} {k9 : Nat} (hown9 : w9.ownsRow bs 22 1 (.slice A9 (iv + 1) k9) (iv + 1) (us ++ [.slice A3 r.length c3])) (hg : w3.grownBy w9 (Value.slice D iv dc).ownBlock) (hb9 : Below bs w3 w9) (hst : Stay w3 (.slice A9 (iv + 1) k9) (.slice D iv dc)) :
    TnM w0 w9 bs gx gB n b V ib iu (iv + 1) U uc vs A9 k9 (us ++ [.slice A3 r.length c3]) := by
  have h3 := h.next hb3
  obtain ⟨l1, l2, l3, l4, l5⟩ := h.low
  have h3s := hb3.size
  have h9s := hb9.size
  have hsn := (h.cpr.below hb3).snoc (b2 := w.heap.size) l5 hown3 h.cpr.lt
  have ht : V.take (iv + 1) = V.take iv ++ [r] := by rw [List.take_add_one, hr]; rfl
  rw [← ht] at hsn
  have hsepU : ∀ ad, U = some ad → ad.block < w3.heap.size → w9.heap[ad.block]? = w3.heap[ad.block]? := fun ad he hlt => hg.block _ hlt fun hh => by
    cases hD : D with
    | none => rw [hD] at hh; cases hh
    | some y =>
      rw [hD] at hh
      injection hh with hh
      exact h.sep ad y he hD hh
  refine ⟨h3.box.below hb9 l2, h3.bud.below hb9 l4, own_same h3.use hsepU, h3.rows.grown h3.cpy hg, hown9, hsn.grown h3.cpy hg, ?_, by omega, h3.below.trans (hb9.mono (by omega))⟩
  intro x y hx hy
  subst hy
  rcases hst y _ _ rfl with ⟨n1, k1, he⟩ | hge
  · injection he with e1 _ _
    exact h.sep x y hx e1
  · subst hx
    have := lt_of_own h3.use
    omega
theorem TnM.mkt (h : TnM w0 w bs gx gB n b V n n n U uc vs D dc us) (hn : V.length = n) : MktAt w (some ⟨gB, 0, none⟩) n U n (List.replicate n b) V where
  hB := List.length_replicate
  hV := hn
  budgets := by
    have := blk_ints h.bud
    rwa [budT_all] at this
  uses := by
    have := orows_mat h.rows h.use
    rwa [List.take_of_length_le (by omega)] at this
theorem TnM.mat (h : TnM w0 w bs gx gB n b V n n n U uc vs D dc us) (hn : V.length = n) : Mat w D V := by
  have := orows_mat h.cpr h.cpy
  rwa [List.take_of_length_le (by omega)] at this
end

/- Contract: sells of the top's laws. -/

theorem sells_price {r : List Rat × List (List Rat)} (h : prF [4] [[1]] = some r) : r.1 = [4] := by
  obtain ⟨hv, hs⟩ := prF_ok h
  have hE := hs.equi hv
  have h1 := hE.row 0 (by decide)
  have h2 := hE.col 0 (by decide)
  have hg : goodsN [[1]] = 1 := rfl
  have hl := hs.lp
  rw [hg] at hl h1
  have h1' : (0 : Rat) + spd r.2 0 0 = budQ [4] 0 := h1
  have h2' : (0 : Rat) + spd r.2 0 0 = priQ r.1 0 := h2
  have h3 : budQ [4] 0 = 4 := rfl
  have h4 : priQ r.1 0 = 4 := by grind
  obtain ⟨x, hx⟩ := List.length_eq_one_iff.1 hl
  rw [hx] at h4 ⊢
  have : priQ [x] 0 = x := rfl
  rw [this] at h4
  rw [h4]
theorem sells_some : ∃ r, prF [4] [[1]] = some r := by
  have hv : validM [4] [[1]] = true := by decide
  obtain ⟨r, hr⟩ := found_any [4] [[1]] hv
  exact ⟨r, by unfold prF; rw [if_pos hv]; exact hr⟩
set_option maxRecDepth 100000 in
set_option maxHeartbeats 1600000 in
theorem tsells_any (w : World) : Calls Try.prog 5 #[] w fun e w' => e = .returned (.bool true) ∧ Below w.heap.size w w' := by
  obtain ⟨w3, hw3⟩ : ∃ w3, w3 = ((w.alloc (.cells #[.int .i64 4] 3)).alloc (.cells #[.int .i64 1] 3)).alloc (.cells #[.slice (some ⟨w.heap.size + 1, 0, none⟩) 1 1] 22) := ⟨_, rfl⟩
  have hb3 : Below w.heap.size w w3 := by rw [hw3]; exact (((Below.refl _ _).alloc (Nat.le_refl _) _).alloc (by simp) _).alloc (by simp; omega) _
  have hA : Blk w3 w.heap.size 3 #[.int .i64 4] := by rw [hw3]; exact ((Blk.new _ _ _ rfl).alloc _).alloc _
  have hB : Blk w3 (w.heap.size + 1) 3 #[.int .i64 1] := by rw [hw3]; exact (Blk.new _ _ _ (by simp)).alloc _
  have hC : Blk w3 (w.heap.size + 2) 22 #[.slice (some ⟨w.heap.size + 1, 0, none⟩) 1 1] := by rw [hw3]; exact Blk.new _ _ _ (by simp)
  have hs3 : w3.heap.size = w.heap.size + 3 := by rw [hw3]; simp
  have hmk : MktAt w3 (some ⟨w.heap.size, 0, none⟩) 1 (some ⟨w.heap.size + 2, 0, none⟩) 1 [4] [[1]] := {
    hB := rfl
    hV := rfl
    budgets := Blk.at_ (cs := #[.int .i64 4]) hA
    uses := fun j r hj => by
      have hj0 : j = 0 := by
        have := (List.getElem?_eq_some_iff.1 hj).1
        simp at this
        exact this
      subst hj0
      simp at hj
      subst hj
      refine ⟨⟨w.heap.size + 2, 0, none⟩, some ⟨w.heap.size + 1, 0, none⟩, 1, rfl, ?_, Nat.le_refl _, by decide, Blk.at_ (cs := #[.int .i64 1]) hB⟩
      have := hC.at1.1
      simpa [Addr.add] using this }
  obtain ⟨r, hr⟩ := sells_some
  have hr1 := sells_price hr
  have HP : Hid (Calls Try.prog 13 #[mktV (some ⟨w.heap.size, 0, none⟩) 1 1 (some ⟨w.heap.size + 2, 0, none⟩) 1 1] w3 (PricesPost [4] [[1]] w3)) := Lib.hid (mprices_any _ 1 1 _ 1 1 [4] [[1]] w3 hmk (by decide) (by decide) (by decide) (found_any _ _))
  have H := Lib.hid (And.intro hb3 (And.intro hr hr1))
  have HW3 := Lib.hid hw3
  clear hb3 hA hB hC hmk hr hr1
  go_enter Try.func5, Try.ntmps5
  go_wp2_with fail
  rw [← hw3]
  refine HP.out.mono ?_
  intro ev w4 hpost
  unfold PricesPost at hpost
  rw [H.out.2.1] at hpost
  obtain ⟨hb4, A', c', rfl, hown⟩ := hpost
  rw [H.out.2.2] at hown
  rw [H.out.2.2]
  have H4 := Lib.hid (And.intro (H.out.1.trans (hb4.mono H.out.1.size)) hown)
  clear hb4 hown hw3 HP
  go_wp2_with fail
  have hfr := Fracs.of_cells (At.of_own (H4.out.2))
  have hbz : Below w4.heap.size w4 (w4.alloc (.cells #[.int .i64 4, .int .i64 1] 37)) := (Below.refl _ _).alloc (Nat.le_refl _) _
  have hN : Fracs (w4.alloc (.cells #[.int .i64 4, .int .i64 1] 37)) (some ⟨w4.heap.size, 0, none⟩) [4] := Blk.at_ (cs := #[.int .i64 4, .int .i64 1]) (Blk.new _ _ _ rfl)
  have H5 := Lib.hid (And.intro (hfr.below hbz) (And.intro hN (H4.out.1.trans (hbz.mono H4.out.1.size))))
  clear hfr hbz hN
  go_wp2_with fail
  refine (equalF_any A' (some ⟨w4.heap.size, 0, none⟩) 1 1 c' 1 [4] [4] _ rfl rfl (by decide) H5.out.1 H5.out.2.1).mono ?_
  rintro e w9 ⟨rfl, m9, rfl⟩
  go_wp2_with fail
  go_ret
  exact ⟨by rfl, below_drewN H5.out.2.2 m9⟩

/- What a slice of slices of fractions holds. -/

/-- One of the inner slices: it holds pairs, and lies where the row that holds the slices cannot. -/
def FRow1 (te : TypeId) (w : World) (b : Nat) (v : Value) (ps : List (Int × Int)) : Prop :=
  ∃ A c, v = .slice A ps.length c ∧ Prs w A ps ∧ ∀ ad, A = some ad → ad.block < b ∨ ∃ cs f, w.heap[ad.block]? = some (.cells cs te f)
def FRows (te : TypeId) (w : World) (b : Nat) (vs : List Value) (L : List (List (Int × Int))) : Prop :=
  vs.length = L.length ∧ ∀ (j : Nat) (ps : List (Int × Int)), L[j]? = some ps → ∃ v, vs[j]? = some v ∧ FRow1 te w b v ps
theorem FRow1.below {te : TypeId} {w w' : World} {b : Nat} {v : Value} {ps : List (Int × Int)} (h : FRow1 te w b v ps) (hb : Below w.heap.size w w') : FRow1 te w' b v ps := by
  obtain ⟨A, c, hv, h3, h4⟩ := h
  refine ⟨A, c, hv, h3.below hb, fun ad hA => ?_⟩
  rcases h4 ad hA with h | ⟨cs, f, h⟩
  · exact .inl h
  · exact .inr ⟨cs, f, (hb.block _ (lt_of_block h)).trans h⟩
theorem FRow1.of_own {te : TypeId} {w : World} {base n c : Nat} {A : Option Addr} {ps : List (Int × Int)} (h : w.ownsRow base te 2 (.slice A n c) n (pcells ps)) (hl : ps.length = n) (b : Nat) : FRow1 te w b (.slice A n c) ps := by
  subst hl
  refine ⟨A, c, rfl, At.of_own h, fun ad hA => .inr ?_⟩
  rcases h.2 with ⟨h0, _⟩ | ⟨g, cap, cur, hv, _, hg, _⟩
  · rw [hA] at h0; cases h0
  · rw [hA] at hv
    injection hv with e1 _ _
    injection e1 with e1
    subst e1
    exact ⟨cur, _, hg⟩
theorem FRow1.grown {te tq : TypeId} (hte : te ≠ tq) {w w' : World} {b base n : Nat} {v v' : Value} {ps : List (Int × Int)} {xs : List Value} (h : FRow1 te w b v ps) (hown : w.ownsRow base tq 1 v' n xs) (hb : b ≤ base) (hg : w.grownBy w' v'.ownBlock) : FRow1 te w' b v ps := by
  obtain ⟨A, c, hv, h3, h4⟩ := h
  have key : ∀ ad, A = some ad → (ad.block < b ∨ ∃ cs f, w.heap[ad.block]? = some (.cells cs te f)) → some ad.block ≠ v'.ownBlock := by
    intro ad hA hc he
    rcases hown.2 with ⟨h0, _⟩ | ⟨g, cap, cur, hv', hbg, hgg, _⟩
    · subst h0; cases he
    · subst hv'
      injection he with he
      rcases hc with hc | ⟨cs, f, hc⟩
      · have : ad.block = g := he
        omega
      · have : ad.block = g := he
        rw [this, hgg] at hc
        injection hc with hc
        injection hc with _ hc _
        exact absurd hc.symm hte
  refine ⟨A, c, hv, ?_, fun ad hA => ?_⟩
  · intro i u hu
    obtain ⟨ad, hA, hcell⟩ := h3 i u hu
    refine ⟨ad, hA, hg.cell hcell ?_⟩
    rw [add_block]
    exact key ad hA (h4 ad hA)
  · rcases h4 ad hA with h | ⟨cs, f, h⟩
    · exact .inl h
    · exact .inr ⟨cs, f, (hg.block _ (lt_of_block h) (key ad hA (h4 ad hA))).trans h⟩
theorem FRow1.far {te t : TypeId} (hte : te ≠ t) {w : World} {g : Nat} {cs : Array Value} {v : Value} {ps : List (Int × Int)} (h : FRow1 te w 0 v ps) (hB : Blk w g t cs) {p : Addr} (hp : p.block = g) (u : Value) : FRow1 te (w.setCell p u) 0 v ps := by
  obtain ⟨A, c, hv, h3, h4⟩ := h
  have key : ∀ ad, A = some ad → ad.block ≠ p.block := by
    intro ad hA he
    rcases h4 ad hA with h | ⟨cs', f, h⟩
    · omega
    · rw [he, hp] at h
      have hB' : w.heap[g]? = some (.cells cs t (0, 0)) := hB
      rw [hB'] at h
      injection h with h
      injection h with _ h _
      exact hte h.symm
  refine ⟨A, c, hv, ?_, fun ad hA => ?_⟩
  · intro i x hx
    obtain ⟨ad, hA, hcell⟩ := h3 i x hx
    refine ⟨ad, hA, (World.cell?_of_block (w := w) (a := ad.add i) (by rw [add_block]; exact Below.heap_setCell w p u _ (key ad hA))).trans hcell⟩
  · rcases h4 ad hA with h | ⟨cs', f, h⟩
    · exact .inl h
    · exact .inr ⟨cs', f, (Below.heap_setCell w p u _ (key ad hA)).trans h⟩
theorem FRows.far {te t : TypeId} (hte : te ≠ t) {w : World} {g : Nat} {cs : Array Value} {vs : List Value} {L : List (List (Int × Int))} (h : FRows te w 0 vs L) (hB : Blk w g t cs) {p : Addr} (hp : p.block = g) (u : Value) : FRows te (w.setCell p u) 0 vs L :=
  ⟨h.1, fun j os hj => by obtain ⟨v, hv, hr⟩ := h.2 j os hj; exact ⟨v, hv, hr.far hte hB hp u⟩⟩
section
variable {te tq : TypeId} {w w' : World} {b : Nat} {vs vs' : List Value} {L L' : List (List (Int × Int))}
theorem FRows.nil : FRows te w b [] [] := ⟨rfl, fun j os h => by simp at h⟩
theorem FRows.below (h : FRows te w b vs L) (hb : Below w.heap.size w w') : FRows te w' b vs L :=
  ⟨h.1, fun j os hj => by obtain ⟨v, hv, hr⟩ := h.2 j os hj; exact ⟨v, hv, hr.below hb⟩⟩
theorem FRows.grown (hte : te ≠ tq) {base n : Nat} {v' : Value} {xs : List Value} (h : FRows te w b vs L) (hown : w.ownsRow base tq 1 v' n xs) (hb : b ≤ base) (hg : w.grownBy w' v'.ownBlock) : FRows te w' b vs L :=
  ⟨h.1, fun j os hj => by obtain ⟨v, hv, hr⟩ := h.2 j os hj; exact ⟨v, hv, hr.grown hte hown hb hg⟩⟩
theorem FRows.append (h : FRows te w b vs L) (h' : FRows te w b vs' L') : FRows te w b (vs ++ vs') (L ++ L') := by
  refine ⟨by rw [List.length_append, List.length_append, h.1, h'.1], fun j os hj => ?_⟩
  by_cases hlt : j < L.length
  · rw [List.getElem?_append_left hlt] at hj
    rw [List.getElem?_append_left (by rw [h.1]; exact hlt)]
    exact h.2 j os hj
  · rw [List.getElem?_append_right (by omega)] at hj
    rw [List.getElem?_append_right (by rw [h.1]; omega), h.1]
    exact h'.2 _ os hj
theorem FRows.one_ {v : Value} {ps : List (Int × Int)} (h : FRow1 te w b v ps) : FRows te w b [v] [ps] :=
  ⟨rfl, fun j x hj => by cases j with
    | zero => simp at hj; subst hj; exact ⟨v, rfl, h⟩
    | succ j => simp at hj⟩
theorem FRow1.one {v : Value} {ps : List (Int × Int)} (h : FRow1 te w b v ps) : v.oneCell' = true := by
  obtain ⟨A, c, rfl, _⟩ := h; rfl
/-- A slice of slices of pairs, read. -/
def PMat (w : World) (A : Option Addr) (L : List (List (Int × Int))) : Prop :=
  ∀ (j : Nat) (ps : List (Int × Int)), L[j]? = some ps → ∃ ad A' c, A = some ad ∧ w.cell? (ad.add j) = some (.slice A' ps.length c) ∧ Prs w A' ps
theorem PMat.below {A : Option Addr} (h : PMat w A L) (hb : Below w.heap.size w w') : PMat w' A L := fun j r hj => by
  obtain ⟨ad, A', c, h1, h2, h3⟩ := h j r hj
  exact ⟨ad, A', c, h1, (hb.cell (lt_of_cell h2)).trans h2, h3.below hb⟩
theorem PMat.nil {A : Option Addr} : PMat w A [] := fun j r h => by simp at h
theorem PMat.some_ {A : Option Addr} (h : PMat w A L) (hn : 0 < L.length) : ∃ ad, A = some ad ∧ ad.block < w.heap.size ∧ ∀ (j : Nat) (ps : List (Int × Int)), L[j]? = some ps → ∃ A' c, w.cell? (ad.add j) = some (.slice A' ps.length c) ∧ Prs w A' ps := by
  obtain ⟨ad, A', c, h1, h2, _⟩ := h 0 _ (List.getElem?_eq_getElem hn)
  refine ⟨ad, h1, by have := lt_of_cell h2; rwa [add_block] at this, fun j r hj => ?_⟩
  obtain ⟨ad', A', c, h1', h2, h3⟩ := h j r hj
  rw [h1] at h1'
  injection h1' with h1'
  subst h1'
  exact ⟨A', c, h2, h3⟩
theorem PMat.of_rows {base n c : Nat} {A : Option Addr} (h : FRows te w b vs L) (hown : w.ownsRow base tq 1 (.slice A n c) n vs) : PMat w A L := fun j ps hj => by
  obtain ⟨v, hv, A', c', rfl, hp, _⟩ := h.2 j ps hj
  obtain ⟨ad, hA, hc⟩ := At.of_own hown j _ hv
  exact ⟨ad, A', c', hA, hc, hp⟩
theorem PMat.fmat {A : Option Addr} {S : List (List Rat)} (h : PMat w A (S.map fun r => r.map pr)) : FMat w A S := fun j r hj => by
  obtain ⟨ad, A', c, h1, h2, h3⟩ := h j (r.map pr) (by rw [List.getElem?_map, hj]; rfl)
  rw [List.length_map] at h2
  exact ⟨ad, A', c, h1, h2, h3⟩
theorem FMat.pmat {A : Option Addr} {S : List (List Rat)} (h : FMat w A S) : PMat w A (S.map fun r => r.map pr) := fun j ps hj => by
  rw [List.getElem?_map] at hj
  cases hs : S[j]? with
  | none => rw [hs] at hj; cases hj
  | some r =>
    rw [hs] at hj
    injection hj with hj
    subst hj
    obtain ⟨ad, A', c, h1, h2, h3⟩ := h j r hs
    exact ⟨ad, A', c, h1, by rw [List.length_map]; exact h2, h3⟩
end
theorem fr_ne : 37 ≠ 30 := by decide
theorem mfr_neb : 49 ≠ 47 := by decide
theorem mfr_ne : 49 ≠ 44 := by decide

/- Contract: Spend of package market. -/

def SpendPost (B : List Int) (V : List (List Int)) (w : World) (x : Ending) (w' : World) : Prop :=
  Below w.heap.size w w' ∧ match prF B V with
    | none => x = .returned (.tuple #[.slice none 0 0, .int .i64 2])
    | some r => ∃ A' c', x = .returned (.tuple #[.slice A' r.2.length c', .int .i64 0]) ∧ FMat w' A' r.2
theorem map_take_next {α β : Type} {l : List α} {f : α → β} {k : Nat} {x : α} (h : l[k]? = some x) : (l.map f).take (k + 1) = (l.map f).take k ++ [f x] := by
  rw [List.take_add_one, List.getElem?_map, h]; rfl

/- Contract: Worth of package market. -/

def WorthPost (B : List Int) (V : List (List Int)) (w : World) (x : Ending) (w' : World) : Prop :=
  Below w.heap.size w w' ∧ match prF B V with
    | none => x = .returned (.tuple #[.slice none 0 0, .int .i64 2])
    | some r => ∃ A' c', x = .returned (.tuple #[.slice A' B.length c', .int .i64 0]) ∧ Go.Proofs.Ytoeohpkdjlfooaa.Fracs w' A' (worL V B.length (goodsN V) r)
theorem mplus_wb (p q : Rat) (w : World) (hp : Wb p) (hq : Wb q) : Calls Try.prog 18 #[.agg #[.int .i64 p.num, .int .i64 (p.den : Int)], .agg #[.int .i64 q.num, .int .i64 (q.den : Int)]] w fun e w' => e = .returned (.agg #[.int .i64 (p + q).num, .int .i64 ((p + q).den : Int)]) ∧ Below w.heap.size w w' := by
  have p0 := den_pos p
  have q0 := den_pos q
  obtain ⟨p1, p2, p3⟩ := hp
  obtain ⟨q1, q2, q3⟩ := hq
  have a := mul_shrink (a := p.num) (b := 576000000) (c := (q.den : Int)) (m := 4000000000000000000) (by omega) (by omega) (by omega) (by omega)
  have b := mul_shrink (a := q.num) (b := 576000000) (c := (p.den : Int)) (m := 4000000000000000000) (by omega) (by omega) (by omega) (by omega)
  have c := mul_shrink (a := (p.den : Int)) (b := 57600000) (c := (q.den : Int)) (m := 4000000000000000000) (by omega) (by omega) (by omega) (by omega)
  exact mplus_raw p q w a.1 a.2 b.1 b.2 c.2 (by omega) (by omega)
theorem worQ_eq (V : List (List Int)) (P : List Rat) (S : List (List Rat)) (i g : Nat) : ((useN V i g : Int) : Rat) * spd S i g / priQ P g = worQ V P S i g := rfl
set_option maxRecDepth 100000 in
set_option maxHeartbeats 4000000 in
theorem mworth_any (A : Option Addr) (n c : Nat) (U : Option Addr) (m d : Nat) (B : List Int) (V : List (List Int)) (w : World) (h : MktAt w A n U m B V) (hn : n ≤ 1000) (hm : m ≤ 1000) (hr : ∀ r ∈ V, r.length ≤ 1000) (hex : Found B V) :
    Calls Try.prog 7 #[mktV A n c U m d] w (WorthPost B V w) := by
  have hb1 : Below w.heap.size w (w.alloc (.cells #[.slice A n c, .slice U m d] 28)) := (Below.refl _ _).alloc (Nat.le_refl _) _
  have hM1 : Blk (w.alloc (.cells #[.slice A n c, .slice U m d] 28)) w.heap.size 28 #[.slice A n c, .slice U m d] := Blk.new _ _ _ rfl
  have HV := Lib.hid (mvalid_any A n c U m d B V _ (h.below hb1) hn hm hr)
  have H := Lib.hid (And.intro h (And.intro hex (And.intro hb1 hM1)))
  clear h hex hb1 hM1
  unfold mktV
  go_enter Try.func7, Try.ntmps7
  go_wp2_with fail
  refine HV.out.mono ?_
  rintro e w2 ⟨rfl, hb2⟩
  have hM2 := H.out.2.2.2.below hb2 (by simp)
  have hbw := H.out.2.2.1.trans (hb2.mono H.out.2.2.1.size)
  obtain ⟨m1, m2, _, _⟩ := hM2.at2
  have H2 := Lib.hid (And.intro hM2 hbw)
  clear hM2 hbw hb2 HV
  cases hv : validM B V with
  | false =>
    have HP : Hid (prF B V = none) := Lib.hid (by unfold prF; rw [if_neg (by rw [hv]; decide)])
    clear hv
    go_wp2_with fail
    go_ret2
    exact ⟨H2.out.2, by rw [HP.out]; rfl⟩
  | true =>
    obtain ⟨rfl, hmk⟩ := mkIn_of H.out.1 hv
    obtain ⟨r, hbf⟩ := H.out.2.1 hv
    have HP : Hid (prF B V = some r) := Lib.hid (by unfold prF; rw [if_pos hv]; exact hbf)
    have hok := (prF_ok HP.out).2
    have HWB : Hid (∀ i g, i < m → g < goodsN V → (0 ≤ (spd r.2 i g).num ∧ (spd r.2 i g).num ≤ 24000 ∧ ((spd r.2 i g).den : Int) ≤ 1200) ∧ Wb (worQ V r.1 r.2 i g) ∧ Wb (worTo V r.1 r.2 i g) ∧ PrS (priQ r.1 g)) := Lib.hid fun i g hi hg => by
      rw [← H.out.1.hB] at hi
      have := wor_wb hv hok hi hg
      exact ⟨this.1, this.2.1, this.2.2, pri_sm hok hg⟩
    have HB : Hid (Calls Try.prog 16 #[mktV A m c U m d] w2 (BalPost B V m (goodsN V) w2)) := Lib.hid (mbalance_any A m c U d (goodsN V) B V w2 (hmk.below H2.out.2))
    have hBm := H.out.1.hB
    rw [hBm] at hbf
    have hm3 := hmk.hn
    obtain ⟨k, hkk⟩ : ∃ k, k = goodsN V := ⟨_, rfl⟩
    have hk3 := hmk.hk
    have hls := hok.ls
    have hlp := hok.lp
    have hlr := hok.lr
    have hrw := hmk.rows
    rw [hBm] at hls
    rw [← hkk] at hbf hlp hlr hk3 HWB HB hrw
    have HBF := Lib.hid (And.intro hbf (And.intro hls (And.intro hlp (And.intro hlr (And.intro hkk hrw)))))
    clear hv hbf hok hmk hls hlp hlr hkk hrw
    go_wp2_with fail
    refine HB.out.mono ?_
    intro ev w5 hpost
    unfold BalPost at hpost
    rw [HBF.out.1] at hpost
    obtain ⟨hb5, PB, SB, rfl, hm5⟩ := hpost
    have H5 := Lib.hid (And.intro hb5 hm5)
    have hs5 := hb5.size
    have hb05 := H2.out.2.trans (hb5.mono H2.out.2.size)
    obtain ⟨w6, hw6⟩ : ∃ w6, w6 = w5.alloc (.cells #[.slice (some ⟨PB, 0, none⟩) k k, .slice (some ⟨SB, 0, none⟩) m m] 47) := ⟨_, rfl⟩
    have hb56 : Below w5.heap.size w5 w6 := by rw [hw6]; exact (Below.refl _ _).alloc (Nat.le_refl _) _
    have hB6 : Blk w6 w5.heap.size 47 #[.slice (some ⟨PB, 0, none⟩) k k, .slice (some ⟨SB, 0, none⟩) m m] := by rw [hw6]; exact Blk.new _ _ _ rfl
    have hs6 : w6.heap.size = w5.heap.size + 1 := by rw [hw6]; simp
    have hM6 := (H2.out.1.below hb5 H2.out.1.lt).below hb56 (by have := H2.out.1.lt; omega)
    obtain ⟨y0, y1, _, _⟩ := hB6.at2
    have hF6 := hm5.get.1.below hb56
    have hS6 := hm5.get.2.below hb56
    have H6 := Lib.hid (And.intro (hb05.trans (hb56.mono hb05.size)) (And.intro hB6 (And.intro hM6 (And.intro hF6 hS6))))
    clear hb5 hm5 m1 m2 HB hb05 hb56 hB6 hM6 hF6 hS6
    unfold balV
    go_wp2_with fail
    rw [← hw6]
    clear hw6
    go_loopw [5, 19] (fun ov iv wx => ∃ (i : Nat) (A2 : Option Addr) (c2 : Nat), i ≤ m ∧ iv = .int .i64 i ∧ ov = .slice A2 i c2 ∧ wx.ownsRow w6.heap.size 49 2 (.slice A2 i c2) i (fcells ((worL V m k r).take i)) ∧ Below w6.heap.size w6 wx) (fun _ iv _ => m - (intOf iv).toNat)
    case atStart => exact ⟨0, none, 0, Nat.zero_le _, rfl, rfl, by simpa [fcells] using World.ownsRow_nil _ _ _ _, Below.refl _ _⟩
    case round =>
      obtain ⟨i, A2, c2, hi, rfl, rfl, hown, hbl⟩ := hrel
      obtain ⟨wo, rfl⟩ : ∃ wo : World, wo = wr := ⟨_, rfl⟩
      have HR := Lib.hid (And.intro hown hbl)
      have hos := hbl.size
      clear hown hbl
      by_cases him : i < m
      · obtain ⟨x, hx⟩ : ∃ x, r.2[i]? = some x := ⟨_, List.getElem?_eq_getElem (by rw [HBF.out.2.1]; exact him)⟩
        obtain ⟨ad, A3, c3, hA, hc, hF⟩ := H6.out.2.2.2.2 i x hx
        injection hA with hA
        subst hA
        have hxl := HBF.out.2.2.2.1 x (List.mem_of_getElem? hx)
        have hsx : ∀ g, spd r.2 i g = x.getD g 0 := fun g => by unfold spd rowQ; rw [List.getD_eq_getElem?_getD (l := r.2), hx]; rfl
        have c1 := (HR.out.2.cell (lt_of_cell hc)).trans hc
        have e1 : (⟨SB, 0, none⟩ : Addr).add i = ⟨SB, i, none⟩ := by
          cases i with
          | zero => simp [Addr.add]
          | succ j => simp [Addr.add]
        rw [e1, hxl] at c1
        have HX := Lib.hid (And.intro hx (And.intro hxl (And.intro hF hsx)))
        have hnx : (worL V m k r).take (i + 1) = (worL V m k r).take i ++ [worTo V r.1 r.2 i k] := by
          unfold worL
          exact map_take_next (List.getElem?_range him)
        have HNX := Lib.hid hnx
        clear hx hc hF hxl e1 hsx hnx
        go_wp2_with fail
        refine (mwhole_any 0 _).mono ?_
        rintro e w7 ⟨rfl, hb7⟩
        rw [fr_int]
        have hs7 := hb7.size
        have H7 := Lib.hid (HR.out.2.trans (hb7.mono hos))
        have H7o := Lib.hid (own_below HR.out.1 hb7)
        clear hb7 c1
        go_wp2_with fail
        go_loopw [27] (fun gv wx => ∃ g : Nat, g ≤ k ∧ gv = .int .i64 g ∧ Blk wx w7.heap.size 49 #[.int .i64 (worTo V r.1 r.2 i g).num, .int .i64 ((worTo V r.1 r.2 i g).den : Int)] ∧ Below w7.heap.size w7 wx) (fun gv _ => k - (intOf gv).toNat)
        case atStart => exact ⟨0, Nat.zero_le _, rfl, Blk.new _ _ _ rfl, (Below.refl _ _).alloc (Nat.le_refl _) _⟩
        case round =>
          obtain ⟨g, hg, rfl, hBl, hbl⟩ := hrel
          obtain ⟨wl, rfl⟩ : ∃ wl : World, wl = wr := ⟨_, rfl⟩
          have hls := hBl.lt
          have HL := Lib.hid (And.intro hBl hbl)
          clear hBl hbl
          by_cases hgk : g < k
          · have h6l := H7.out.trans (HL.out.2.mono H7.out.size)
            obtain ⟨q, hq⟩ : ∃ q, x[g]? = some q := ⟨_, List.getElem?_eq_getElem (by rw [HX.out.2.1]; exact hgk)⟩
            obtain ⟨a3, hA3, _, hc3⟩ := (HX.out.2.2.1.below h6l).some_ (by rw [HX.out.2.1]; omega)
            subst hA3
            obtain ⟨v1, v2⟩ := hc3 g q hq
            have hsq : spd r.2 i g = q := by rw [HX.out.2.2.2, List.getD_eq_getElem?_getD, hq]; rfl
            obtain ⟨p, hp⟩ : ∃ p, r.1[g]? = some p := ⟨_, List.getElem?_eq_getElem (by rw [HBF.out.2.2.1]; exact hgk)⟩
            have hpp : priQ r.1 g = p := by unfold priQ; rw [List.getD_eq_getElem?_getD, hp]; rfl
            obtain ⟨wb1, wb2, wb3, wb4⟩ := HWB.out i g him hgk
            rw [hpp] at wb4
            rw [hsq] at wb1
            have hwq : ((useN V i g : Int) : Rat) * q / p = worQ V r.1 r.2 i g := by rw [← worQ_eq, hsq, hpp]
            have hub := useN_bd HBF.out.2.2.2.2.2 i g
            obtain ⟨w8, hw8⟩ : ∃ w8, w8 = wl.alloc (.cells #[.int .i64 q.num, .int .i64 (q.den : Int)] 49) := ⟨_, rfl⟩
            have hb8 : Below wl.heap.size wl w8 := by rw [hw8]; exact (Below.refl _ _).alloc (Nat.le_refl _) _
            have hX8 : Blk w8 wl.heap.size 49 #[.int .i64 q.num, .int .i64 (q.den : Int)] := by rw [hw8]; exact Blk.new _ _ _ rfl
            have h68 := h6l.trans (hb8.mono h6l.size)
            have h08 := H6.out.1.trans (h68.mono H6.out.1.size)
            obtain ⟨f1, f2, _, _⟩ := (HL.out.1.below hb8 hls).at2
            obtain ⟨f3, f4, _, _⟩ := hX8.at2
            obtain ⟨f5, f6, _, _⟩ := (H6.out.2.1.below h68 (by omega)).at2
            obtain ⟨_, f7, _, _⟩ := (H6.out.2.2.1.below h68 (by have := H6.out.2.2.1.lt; omega)).at2
            obtain ⟨aP, hAP, _, hcP⟩ := (H6.out.2.2.2.1.below h68).some_ (by rw [HBF.out.2.2.1]; omega)
            injection hAP with hAP
            subst hAP
            obtain ⟨f8, f9⟩ := hcP g p hp
            obtain ⟨aU, hAU, _, hcU⟩ := H.out.1.uses.some_ (by rw [H.out.1.hV]; omega)
            have hVb := rowV_some (V := V) (i := i) (by rw [H.out.1.hV]; exact him)
            have hrl := rowOk_iff.1 (HBF.out.2.2.2.2.2 _ (List.mem_of_getElem? hVb))
            obtain ⟨R2, cr2, u1, _, _, hR⟩ := hcU i _ hVb
            rw [hrl.1] at u1
            obtain ⟨ar2, hRe2, _, hcR⟩ := hR.some_ (by rw [hrl.1]; omega)
            subst hRe2
            have u2 := hcR g (useN V i g) (by unfold useN; rw [List.getD_eq_getElem?_getD, List.getElem?_eq_getElem (by rw [hrl.1]; exact hgk)]; rfl)
            have f10 := (h08.cell (lt_of_cell u1)).trans u1
            have f11 := (h08.cell (lt_of_cell u2)).trans u2
            have eP : ∀ j : Nat, (⟨PB, 0, none⟩ : Addr).add j = ⟨PB, j, none⟩ := fun j => by
              cases j with
              | zero => simp [Addr.add]
              | succ j => simp [Addr.add]
            rw [eP] at f8 f9
            obtain ⟨u, hu⟩ : ∃ u, u = useN V i g := ⟨_, rfl⟩
            rw [← hu] at hub f11 hwq
            obtain ⟨t, ht⟩ : ∃ t, t = worQ V r.1 r.2 i g := ⟨_, rfl⟩
            rw [← ht] at hwq wb2
            obtain ⟨s, hs⟩ : ∃ s, s = worTo V r.1 r.2 i g := ⟨_, rfl⟩
            rw [← hs] at wb3
            simp only [← hs] at f1 f2
            have hst : s + t = worTo V r.1 r.2 i (g + 1) := by rw [hs, ht]; rfl
            have HWH : Hid (∀ s' : Desc w8, Calls Try.prog 17 #[.int .i64 u] s'.val fun e w'' => e = .returned (.agg #[.int .i64 u, .int .i64 1]) ∧ ∃ s'' : Desc w8, w'' = s''.val) := Lib.hid fun s' => Calls.desc_of (by
              have := mwhole_any u s'.val
              rw [fr_int] at this
              exact this)
            obtain ⟨y, hy⟩ : ∃ y, y = (u : Rat) * q := ⟨_, rfl⟩
            have hqd := den_pos q
            have HTM : Hid (∀ s' : Desc w8, Calls Try.prog 19 #[.agg #[.int .i64 u, .int .i64 1], .agg #[.int .i64 q.num, .int .i64 (q.den : Int)]] s'.val fun e w'' => e = .returned (.agg #[.int .i64 y.num, .int .i64 (y.den : Int)]) ∧ ∃ s'' : Desc w8, w'' = s''.val) := Lib.hid fun s' => Calls.desc_of (by
              have := mtimes_sm (u : Rat) q s'.val ⟨by rw [Rat.num_intCast]; omega, by rw [Rat.num_intCast]; omega, by rw [Rat.den_intCast]; decide⟩ ⟨by omega, by omega, by omega⟩ wb1.1
              rw [← hy, Rat.num_intCast, Rat.den_intCast] at this
              exact this)
            have hyb : Sm y := by
              have h0 : y = ((u * q.num : Int) : Rat) / ((q.den : Int) : Rat) := by
                rw [hy, Rat.intCast_mul]
                have hx' := num_den_of q
                have a1 : ((q.den : Int) : Rat) ≠ 0 := rat_ne (by omega)
                generalize ((q.den : Int) : Rat) = xd at *
                generalize (q.num : Rat) = xn at *
                rw [hx']
                grind
              have h1 : 0 ≤ u * q.num ∧ u * q.num ≤ 20 * 24000 := ⟨Int.mul_nonneg hub.1 wb1.1, Int.mul_le_mul hub.2 wb1.2.1 wb1.1 (by omega)⟩
              have h4 := frac_bd (by omega) h0
              have h5 := frac_nn (by omega) h1.1 h0
              unfold Sm
              omega
            have HOV : Hid (∀ s' : Desc w8, Calls Try.prog 20 #[.agg #[.int .i64 y.num, .int .i64 (y.den : Int)], .agg #[.int .i64 p.num, .int .i64 (p.den : Int)]] s'.val fun e w'' => e = .returned (.agg #[.int .i64 t.num, .int .i64 (t.den : Int)]) ∧ ∃ s'' : Desc w8, w'' = s''.val) := Lib.hid fun s' => Calls.desc_of (by
              have := mover_sm y p s'.val hyb ⟨by have := wb4.1; omega, by have := wb4.2.1; omega, by have := wb4.2.2; omega⟩ (by have := wb4.1; omega)
              rw [hy, hwq, ← hy] at this
              exact this)
            obtain ⟨z, hz⟩ : ∃ z, z = worTo V r.1 r.2 i (g + 1) := ⟨_, rfl⟩
            have HPL : Hid (∀ s' : Desc w8, Calls Try.prog 18 #[.agg #[.int .i64 s.num, .int .i64 (s.den : Int)], .agg #[.int .i64 t.num, .int .i64 (t.den : Int)]] s'.val fun e w'' => e = .returned (.agg #[.int .i64 z.num, .int .i64 (z.den : Int)]) ∧ ∃ s'' : Desc w8, w'' = s''.val) := Lib.hid fun s' => Calls.desc_of (by
              have := mplus_wb s t s'.val wb3 wb2
              rw [hst, ← hz] at this
              exact this)
            have HZ := Lib.hid hz
            have d1 : ∀ s : Desc w8, s.val.cell? ⟨w7.heap.size, 0, none⟩ = some (.int .i64 _) := fun s => s.cell f1
            have d2 : ∀ s : Desc w8, s.val.cell? ⟨w7.heap.size, 1, none⟩ = some (.int .i64 _) := fun s => s.cell f2
            have d3 : ∀ s : Desc w8, s.val.cell? ⟨wl.heap.size, 0, none⟩ = some (.int .i64 q.num) := fun s => s.cell f3
            have d4 : ∀ s : Desc w8, s.val.cell? ⟨wl.heap.size, 1, none⟩ = some (.int .i64 (q.den : Int)) := fun s => s.cell f4
            have d5 : ∀ s : Desc w8, s.val.cell? ⟨w5.heap.size, 0, none⟩ = some (.slice (some ⟨PB, 0, none⟩) k k) := fun s => s.cell f5
            have d7 : ∀ s : Desc w8, s.val.cell? ⟨w.heap.size, 1, none⟩ = some (.slice U m d) := fun s => s.cell f7
            have d8 : ∀ s : Desc w8, s.val.cell? ⟨PB, g * 2, none⟩ = some (.int .i64 p.num) := fun s => s.cell f8
            have d9 : ∀ s : Desc w8, s.val.cell? ⟨PB, g * 2 + 1, none⟩ = some (.int .i64 (p.den : Int)) := fun s => s.cell f9
            have d10 : ∀ s : Desc w8, s.val.cell? (aU.add i) = some (.slice (some ar2) k cr2) := fun s => s.cell f10
            have d11 : ∀ s : Desc w8, s.val.cell? (ar2.add g) = some (.int .i64 u) := fun s => s.cell f11
            have H8 := Lib.hid (And.intro (HL.out.1.below hb8 hls) (HL.out.2.trans (hb8.mono HL.out.2.size)))
            subst hAU
            clear f1 f2 f3 f4 f5 f6 f7 f8 f9 f10 f11 hcP hcR hcU hR u1 u2 hVb hrl eP hu ht hs hst hyb hy hz hub hwq wb1 wb2 wb3 wb4 hpp hsq hq hp hc3 hX8 hb8 h6l h68 h08
            go_wp2_with fail
            rw [← hw8]
            clear hw8
            refine wp_region_desc_tail 19 (by kernel_rfl) (by kernel_rfl) ?_
            simp only [List.take_succ_cons, List.take_zero, List.drop_succ_cons, List.drop_zero]
            repeat (go_big_quiet_step (first | (go_at_call 17; exact HWH.out _) | (go_at_call 19; exact HTM.out _) | (go_at_call 20; exact HOV.out _) | (go_at_call 18; exact HPL.out _)))
            refine wpQuiet_nil ?_
            rintro _ ⟨sd, rfl⟩
            have hb9 := sd.below
            generalize sd.val = w9 at hb9 ⊢
            clear d1 d2 d3 d4 d5 d7 d8 d9 d10 d11
            have hB9 := H8.out.1.below hb9 H8.out.1.lt
            obtain ⟨r1, r2, r3, r4⟩ := hB9.at2
            have H9 := Lib.hid (And.intro hB9 (H8.out.2.trans (hb9.mono H8.out.2.size)))
            clear hB9 hb9
            go_wp2_with fail
            go_roundw
            case rel =>
              have h9 := (Blk.set_ (Blk.set_ H9.out.1 0 (.int .i64 z.num)) 1 (.int .i64 (z.den : Int)))
              refine ⟨g + 1, by omega, by go_num, ?_, (H9.out.2.setCell (by simp) _).setCell (by simp) _⟩
              rw [← HZ.out]
              exact h9
            case measure => simp [intOf]; omega
          · obtain rfl : k = g := by omega
            obtain ⟨r1, r2, _, _⟩ := HL.out.1.at2
            obtain ⟨z, hz⟩ : ∃ z, z = worTo V r.1 r.2 i k := ⟨_, rfl⟩
            rw [← hz] at HNX
            simp only [← hz] at r1 r2
            have hown := own_below H7o.out (HL.out.2)
            have H8 := Lib.hid (And.intro hown (H7.out.trans (HL.out.2.mono H7.out.size)))
            have hsz : w6.heap.size ≤ wl.heap.size := H8.out.2.size
            clear hz hown
            go_wp2_with (at_builtin; refine app1g sty_mfrac rfl _ _ rfl w6.heap.size A2 i c2 _ #[.int .i64 z.num, .int .i64 (z.den : Int)] rfl (by simp [Value.oneCell']) rfl H8.out.1 _ rfl (by simp) (by omega) hsz ?_)
            intro A5 k5 w9 hown9 hg9 hbl9 hk91 hk92
            have hnx : fcells ((worL V m k r).take (i + 1)) = fcells ((worL V m k r).take i) ++ [.int .i64 z.num, .int .i64 (z.den : Int)] := by rw [HNX.out, fcells_snoc]
            rw [← hs6] at hown9 hbl9
            have H9 := Lib.hid (And.intro hown9 (And.intro hnx (H8.out.2.trans hbl9)))
            clear hown9 hg9 hbl9 hnx
            go_wp2_with fail
            go_roundw
            case rel => exact ⟨i + 1, A5, k5, by omega, by go_num, rfl, by rw [H9.out.2.1]; exact H9.out.1, H9.out.2.2⟩
            case measure => simp [intOf]; omega
      · obtain rfl : m = i := by omega
        have hown := HR.out.1
        rw [List.take_of_length_le (by simp [worL])] at hown
        have HFR : Hid (Calls Try.prog 21 #[.slice A2 m c2] wo fun e w' => ∃ A' c', e = .returned (.slice A' m c') ∧ w'.ownsRow wo.heap.size 37 2 (.slice A' m c') m (pcells ((worL V m k r).map pr)) ∧ Below wo.heap.size wo w') := Lib.hid (mfracs_any A2 m c2 ((worL V m k r).map pr) wo (by simp [worL]) hm (by
          have := Fracs.of_cells (At.of_own hown)
          exact this))
        clear hown
        go_wp2_with fail
        refine HFR.out.mono ?_
        rintro e w9 ⟨A', c', rfl, hown9, hb9⟩
        have H9 := Lib.hid (And.intro hown9 hb9)
        clear hown9 hb9 HFR
        go_wp2_with fail
        go_ret2
        have h6 := H6.out.1.trans (HR.out.2.mono H6.out.1.size)
        refine ⟨h6.trans (H9.out.2.mono h6.size), ?_⟩
        rw [HP.out]
        refine ⟨A', c', by rw [hBm]; rfl, ?_⟩
        have := At.of_own H9.out.1
        rw [hBm, ← HBF.out.2.2.2.2.1]
        exact this

/- Contract: Valid of the reference. -/

/-- Which goods are of use to someone of the first i, or to the next one among the first g. -/
def ofB (V : List (List Int)) (i : Nat) (r : List Int) (g h : Nat) : Bool := (V.take i).any (fun r => decide (0 < r.getD h 0)) || (decide (h < g) && decide (0 < r.getD h 0))
def ofA (V : List (List Int)) (i : Nat) (r : List Int) (g : Nat) : Array Value := #[.bool (ofB V i r g 0), .bool (ofB V i r g 1), .bool (ofB V i r g 2)]
theorem ofB_zero (V : List (List Int)) (i : Nat) (r r' : List Int) (h : Nat) : ofB V i r 0 h = ofB V i r' 0 h := by simp [ofB]
theorem ofB_next {V : List (List Int)} {i : Nat} {r r' : List Int} (hr : V[i]? = some r) {h : Nat} : ofB V i r r.length h = ofB V (i + 1) r' 0 h := by
  unfold ofB
  rw [mem_take_succ hr, List.any_append]
  by_cases hh : h < r.length
  · simp [hh]
  · have : r.getD h 0 = 0 := by rw [List.getD_eq_getElem?_getD, List.getElem?_eq_none (by omega)]; rfl
    simp [hh]
theorem ofB_same {V : List (List Int)} {i : Nat} {r : List Int} {g h : Nat} (hh : h ≠ g) : ofB V i r (g + 1) h = ofB V i r g h := by
  unfold ofB
  have : decide (h < g + 1) = decide (h < g) := by rw [decide_eq_decide]; omega
  rw [this]
theorem ofB_at {V : List (List Int)} {i : Nat} {r : List Int} {g : Nat} : ofB V i r (g + 1) g = (ofB V i r g g || decide (0 < r.getD g 0)) := by
  unfold ofB
  simp
theorem ofA_set {V : List (List Int)} {i : Nat} {r : List Int} {g : Nat} (hg : g < 3) : (ofA V i r g).setIfInBounds g (.bool (ofB V i r g g || decide (0 < r.getD g 0))) = ofA V i r (g + 1) := by
  have h3 : g = 0 ∨ g = 1 ∨ g = 2 := by omega
  unfold ofA
  rcases h3 with rfl | rfl | rfl
  · rw [← ofB_at, ofB_same (g := 0) (h := 1) (by omega), ofB_same (g := 0) (h := 2) (by omega)]; rfl
  · rw [← ofB_at, ofB_same (g := 1) (h := 0) (by omega), ofB_same (g := 1) (h := 2) (by omega)]; rfl
  · rw [← ofB_at, ofB_same (g := 2) (h := 0) (by omega), ofB_same (g := 2) (h := 1) (by omega)]; rfl
theorem ofA_get {V : List (List Int)} {i : Nat} {r : List Int} {g h : Nat} (hh : h < 3) : (ofA V i r g)[h]? = some (.bool (ofB V i r g h)) := by
  have h3 : h = 0 ∨ h = 1 ∨ h = 2 := by omega
  rcases h3 with rfl | rfl | rfl <;> rfl
theorem ofA_next {V : List (List Int)} {i : Nat} {r r' : List Int} (hr : V[i]? = some r) : ofA V i r r.length = ofA V (i + 1) r' 0 := by
  unfold ofA
  rw [ofB_next hr (r' := r'), ofB_next hr (r' := r'), ofB_next hr (r' := r')]
theorem invalid_row {B : List Int} {V : List (List Int)} {i : Nat} {r : List Int} (hr : V[i]? = some r) (h : rowOk (goodsN V) r = false) : validM B V = false := by
  unfold validM
  rw [all_bad hr h, Bool.false_and, Bool.and_false, Bool.and_false]
theorem invalid_bud {B : List Int} {V : List (List Int)} {i : Nat} {b : Int} (hr : B[i]? = some b) (h : budOk b = false) : validM B V = false := by
  unfold validM
  rw [all_bad hr h, Bool.false_and, Bool.and_false, Bool.and_false, Bool.false_and]
set_option maxRecDepth 100000 in
set_option maxHeartbeats 1600000 in
theorem r4valid_any (A : Option Addr) (n c : Nat) (U : Option Addr) (m d : Nat) (B : List Int) (V : List (List Int)) (w : World) (h : MktAt w A n U m B V) (hn : n ≤ 9223372036854775807) (hm : m ≤ 9223372036854775807) (hr : ∀ r ∈ V, r.length ≤ 9223372036854775807) :
    Calls Try.prog 4 #[mktV A n c U m d] w fun e w' => e = .returned (.bool (validM B V)) ∧ Below w.heap.size w w' := by
  have hb1 : Below w.heap.size w (w.alloc (.cells #[.slice A n c, .slice U m d] 25)) := (Below.refl _ _).alloc (Nat.le_refl _) _
  have hM1 : Blk (w.alloc (.cells #[.slice A n c, .slice U m d] 25)) w.heap.size 25 #[.slice A n c, .slice U m d] := Blk.new _ _ _ rfl
  have hBn := h.hB
  have hVm := h.hV
  have H := Lib.hid (And.intro h (And.intro hb1 (And.intro hM1 (And.intro hBn (And.intro hVm hr)))))
  clear h hb1 hM1 hBn hVm hr
  unfold mktV
  go_enter Try.func4, Try.ntmps4
  have hlen : ¬ (1 ≤ n ∧ n ≤ 3 ∧ m = n) → validM B V = false := by
    intro hno
    cases hv : validM B V with
    | false => rfl
    | true =>
      obtain ⟨⟨a1, a2, _, a4⟩, _⟩ := validM_iff.1 hv
      rw [H.out.2.2.2.1, H.out.2.2.2.2.1] at *
      exact absurd ⟨a1, a2, a4⟩ hno
  have HLEN := Lib.hid hlen
  clear hlen
  by_cases h1 : (n : Int) < 1
  · have HNO := Lib.hid (HLEN.out (by omega))
    go_wp2_with fail
    go_ret
    exact ⟨by rw [HNO.out]; rfl, H.out.2.1⟩
  by_cases h2 : 3 < (n : Int)
  · have HNO := Lib.hid (HLEN.out (by omega))
    go_wp2_with fail
    go_ret
    exact ⟨by rw [HNO.out]; rfl, H.out.2.1⟩
  by_cases h3 : (m : Int) = (n : Int)
  · obtain rfl : m = n := by omega
    obtain ⟨aU, rfl, _, hcU⟩ := H.out.1.uses.some_ (by rw [H.out.1.hV]; omega)
    obtain ⟨R0, c0, hc0, _⟩ := hcU 0 _ (rowV_some (by rw [H.out.1.hV]; omega))
    have hk : (rowV V 0).length = goodsN V := rfl
    rw [hk] at hc0
    obtain ⟨k, hkk⟩ : ∃ k, k = goodsN V := ⟨_, rfl⟩
    rw [← hkk] at hc0
    have e0 : aU.add 0 = aU := by simp [Addr.add]
    rw [e0] at hc0
    have hc1 := (H.out.2.1.cell (lt_of_cell hc0)).trans hc0
    have hgood : ¬ (1 ≤ k ∧ k ≤ 3) → validM B V = false := by
      intro hno
      cases hv : validM B V with
      | false => rfl
      | true =>
        obtain ⟨_, b1, _⟩ := validM_iff.1 hv
        rw [hkk] at hno
        exact absurd b1 hno
    have HGOOD := Lib.hid hgood
    have HKK := Lib.hid hkk
    clear hgood hkk hk e0
    by_cases h4 : (k : Int) < 1
    · have HNO := Lib.hid (HGOOD.out (by omega))
      go_wp2_with fail
      go_ret
      exact ⟨by rw [HNO.out]; rfl, H.out.2.1⟩
    by_cases h5 : 3 < (k : Int)
    · have HNO := Lib.hid (HGOOD.out (by omega))
      go_wp2_with fail
      go_ret
      exact ⟨by rw [HNO.out]; rfl, H.out.2.1⟩
    obtain ⟨aB, rfl, _, hcB⟩ := H.out.1.budgets.some_ (by rw [H.out.1.hB]; omega)
    have HC := Lib.hid (And.intro hcU hcB)
    have hMm := H.out.2.2.1
    have HM := Lib.hid (And.intro hMm H.out.2.1)
    clear hcU hcB hMm
    obtain ⟨w1, hw1⟩ : ∃ w1, w1 = w.alloc (.cells #[.slice (some aB) m c, .slice (some aU) m d] 25) := ⟨_, rfl⟩
    rw [← hw1] at HM
    have hs1 : w1.heap.size = w.heap.size + 1 := by rw [hw1]; simp
    go_upto_region 6 with fail
    rw [← hw1]
    clear hw1 hc0 hc1
    have hb2 : Below w1.heap.size w1 (w1.alloc (.cells (ofA V 0 [] 0) 42)) := (Below.refl _ _).alloc (Nat.le_refl _) _
    have hO2 : Blk (w1.alloc (.cells (ofA V 0 [] 0) 42)) (w.heap.size + 1) 42 (ofA V 0 [] 0) := Blk.new _ _ _ hs1.symm
    have H2 := Lib.hid (And.intro (HM.out.1.below hb2 (by omega)) (And.intro (HM.out.2.trans (hb2.mono (by omega))) hO2))
    have h00 : ofA V 0 [] 0 = #[.bool false, .bool false, .bool false] := by simp [ofA, ofB]
    rw [h00] at H2
    clear hb2 hO2
    have HVM := Lib.hid (And.intro H.out.2.2.2.1 (And.intro H.out.2.2.2.2.1 h00))
    clear h00
    obtain ⟨n1, n2, _, _⟩ := HM.out.1.at2
    go_wp2_with fail
    clear n1 n2
    go_loopw [44] (fun iv wx => ∃ i : Nat, i ≤ m ∧ iv = .int .i64 i ∧ Blk wx (w.heap.size + 1) 42 (ofA V i [] 0) ∧ (∀ j, j < i → rowOk k (rowV V j) = true ∧ budOk (B.getD j 0) = true) ∧ Blk wx w.heap.size 25 #[.slice (some aB) m c, .slice (some aU) m d] ∧ Below w.heap.size w wx) (fun iv _ => m - (intOf iv).toNat)
    case atStart => exact ⟨0, Nat.zero_le _, rfl, by rw [HVM.out.2.2, hs1.symm]; rw [hs1]; exact H2.out.2.2, fun j hj => by omega, H2.out.1, H2.out.2.1⟩
    case round =>
      obtain ⟨i, hi, rfl, hO, hrows, hmk, hbl⟩ := hrel
      obtain ⟨wo, rfl⟩ : ∃ wo : World, wo = wr := ⟨_, rfl⟩
      have HR := Lib.hid (And.intro hO (And.intro hrows (And.intro hmk hbl)))
      obtain ⟨m1, m2, _, _⟩ := hmk.at2
      have hol := hO.lt
      clear hO hrows hmk hbl
      by_cases him : i < m
      · have hV := rowV_some (V := V) (i := i) (by rw [HVM.out.2.1]; exact him)
        obtain ⟨r, hre⟩ : ∃ r, r = rowV V i := ⟨_, rfl⟩
        rw [← hre] at hV
        obtain ⟨R, cr, hc1, hcr, hcr2, hI⟩ := HC.out.1 i r hV
        have c1 := (HR.out.2.2.2.cell (lt_of_cell hc1)).trans hc1
        obtain ⟨bx, hbx⟩ : ∃ b, B[i]? = some b := ⟨_, List.getElem?_eq_getElem (by rw [HVM.out.1]; exact him)⟩
        have hc2 := HC.out.2 i bx hbx
        have c2 := (HR.out.2.2.2.cell (lt_of_cell hc2)).trans hc2
        have hbg : B.getD i 0 = bx := by rw [List.getD_eq_getElem?_getD, hbx]; rfl
        obtain ⟨rl, hrl⟩ : ∃ rl, rl = r.length := ⟨_, rfl⟩
        rw [← hrl] at c1
        have HI := Lib.hid (And.intro hV (And.intro hI (And.intro hbx (And.intro hbg (And.intro hrl hre)))))
        clear hc1 hc2 hV hI hbx hbg hrl hre
        by_cases e1 : (rl : Int) = (k : Int)
        · by_cases e2 : bx < 1
          · have HNO : Hid (validM B V = false) := Lib.hid (invalid_bud HI.out.2.2.1 (by unfold budOk; rw [decide_eq_false (by omega)]; rfl))
            go_wp2_with fail
            go_ret
            exact ⟨by rw [HNO.out]; rfl, HR.out.2.2.2⟩
          by_cases e3 : 20 < bx
          · have HNO : Hid (validM B V = false) := Lib.hid (invalid_bud HI.out.2.2.1 (by unfold budOk; rw [decide_eq_false (show ¬ bx ≤ 20 by omega), Bool.and_false]))
            go_wp2_with fail
            go_ret
            exact ⟨by rw [HNO.out]; rfl, HR.out.2.2.2⟩
          obtain rfl : rl = k := by omega
          have HBD : Hid (budOk (B.getD i 0) = true) := Lib.hid (by rw [HI.out.2.2.2.1]; unfold budOk; rw [decide_eq_true (show 1 ≤ bx by omega), decide_eq_true (show bx ≤ 20 by omega)]; rfl)
          go_wp2_with fail
          go_loopw [71, 7] (fun gv sv wx => ∃ g : Nat, g ≤ rl ∧ gv = .int .i64 g ∧ sv = .bool ((r.take g).any fun x => decide (0 < x)) ∧ (r.take g).all in20 = true ∧ Blk wx (w.heap.size + 1) 42 (ofA V i r g) ∧ Blk wx w.heap.size 25 #[.slice (some aB) m c, .slice (some aU) m d] ∧ Below w.heap.size w wx) (fun gv _ _ => rl - (intOf gv).toNat)
          case atStart => exact ⟨0, Nat.zero_le _, rfl, rfl, rfl, by
            have h := HR.out.1
            unfold ofA at h ⊢
            rw [ofB_zero V i [] r, ofB_zero V i [] r, ofB_zero V i [] r] at h
            exact h, HR.out.2.2.1, HR.out.2.2.2⟩
          case round =>
            obtain ⟨g, hg, rfl, rfl, hall, hO, hmk, hbl⟩ := hrel
            obtain ⟨wl, rfl⟩ : ∃ wl : World, wl = wr := ⟨_, rfl⟩
            have HL := Lib.hid (And.intro hall (And.intro hO (And.intro hmk hbl)))
            have hol2 := hO.lt
            clear hall hO hmk hbl
            by_cases hgk : g < rl
            · obtain ⟨aR, rfl, _, hcR⟩ := HI.out.2.1.some_ (by rw [← HI.out.2.2.2.2.1]; omega)
              obtain ⟨x, hx⟩ : ∃ x, r[g]? = some x := ⟨_, List.getElem?_eq_getElem (by rw [← HI.out.2.2.2.2.1]; exact hgk)⟩
              have hc3 := hcR g x hx
              have c3 := (HL.out.2.2.2.cell (lt_of_cell hc3)).trans hc3
              have hxg : r.getD g 0 = x := by rw [List.getD_eq_getElem?_getD, hx]; rfl
              have o1 := (Blk.cell HL.out.2.1 g).trans (ofA_get (V := V) (i := i) (r := r) (g := g) (h := g) (by omega))
              have o2 := HL.out.2.1.frozen g
              have hxm := List.mem_of_getElem? hx
              have HX := Lib.hid (And.intro hx (And.intro hxg hxm))
              clear hcR hc3 hx hxg hxm
              by_cases e4 : x < 0
              · have HNO : Hid (validM B V = false) := Lib.hid (invalid_row HI.out.1 (by
                  cases hro : rowOk (goodsN V) r with
                  | false => rfl
                  | true => have := (rowOk_iff.1 hro).2.1 x HX.out.2.2; omega))
                go_wp2_with fail
                go_ret
                exact ⟨by rw [HNO.out]; rfl, HL.out.2.2.2⟩
              by_cases e5 : 20 < x
              · have HNO : Hid (validM B V = false) := Lib.hid (invalid_row HI.out.1 (by
                  cases hro : rowOk (goodsN V) r with
                  | false => rfl
                  | true => have := (rowOk_iff.1 hro).2.1 x HX.out.2.2; omega))
                go_wp2_with fail
                go_ret
                exact ⟨by rw [HNO.out]; rfl, HL.out.2.2.2⟩
              have HIN : Hid (in20 x = true) := Lib.hid (by unfold in20; rw [decide_eq_true (show 0 ≤ x by omega), decide_eq_true (show x ≤ 20 by omega)]; rfl)
              obtain ⟨sb, hsb⟩ : ∃ sb, sb = (r.take g).any fun x => decide (0 < x) := ⟨_, rfl⟩
              obtain ⟨obt, hob⟩ : ∃ ob, ob = ofB V i r g g := ⟨_, rfl⟩
              rw [← hob] at o1
              rw [← hsb]
              have HSB := Lib.hid (And.intro hsb hob)
              have HANY : Hid (((r.take (g + 1)).any fun x => decide (0 < x)) = (sb || decide (0 < x))) := Lib.hid (by
                rw [mem_take_succ HX.out.1, List.any_append, ← hsb]; simp)
              have HSET : Hid (Blk (wl.setCell ⟨w.heap.size + 1, g, none⟩ (.bool (obt || decide (0 < x)))) (w.heap.size + 1) 42 (ofA V i r (g + 1))) := Lib.hid (by
                have h := HL.out.2.1.set_ g (.bool (obt || decide (0 < x)))
                rw [hob] at h ⊢
                have h2 := ofA_set (V := V) (i := i) (r := r) (g := g) (by omega)
                rw [HX.out.2.1] at h2
                rw [h2] at h
                exact h)
              clear hsb hob HSB
              have hgi : (g : Int) < 3 := by omega
              cases sb <;> cases obt
              all_goals
                go_wp2_with fail
                go_roundw
                case rel => exact ⟨g + 1, by omega, by go_num, by rw [HANY.out]; rfl, all_take_s HX.out.1 HL.out.1 HIN.out, HSET.out, HL.out.2.2.1.far (by simp) _, HL.out.2.2.2.setCell (by simp) _⟩
                case measure => simp [intOf]; omega
            · obtain rfl : rl = g := by omega
              have ht : r.take rl = r := List.take_of_length_le (by rw [← HI.out.2.2.2.2.1]; exact Nat.le_refl _)
              have hall := HL.out.1
              rw [ht] at hall ⊢
              have hO := HL.out.2.1
              have hrl := HI.out.2.2.2.2.1
              rw [hrl, ofA_next HI.out.1 (r' := [])] at hO
              have HO := Lib.hid (And.intro hO hall)
              cases hsm : r.any fun x => decide (0 < x) with
              | false =>
                have HNO : Hid (validM B V = false) := Lib.hid (invalid_row HI.out.1 (by unfold rowOk; rw [hsm, Bool.and_false, Bool.and_false]))
                clear hO hall ht hrl hsm
                go_wp2_with fail
                go_ret
                exact ⟨by rw [HNO.out]; rfl, HL.out.2.2.2⟩
              | true =>
                have HRO : Hid (rowOk rl (rowV V i) = true) := Lib.hid (by
                  rw [← HI.out.2.2.2.2.2]
                  unfold rowOk
                  rw [decide_eq_true hrl.symm, hall, hsm]; rfl)
                clear hO hall ht hrl hsm
                go_wp2_with fail
                go_roundw
                case rel =>
                  refine ⟨i + 1, by omega, by go_num, HO.out.1, fun j hj => ?_, HL.out.2.2.1, HL.out.2.2.2⟩
                  rcases Nat.lt_or_ge j i with h8 | h8
                  · exact HR.out.2.1 j h8
                  · rw [show j = i by omega]; exact ⟨HRO.out, HBD.out⟩
                case measure => simp [intOf]; omega
        · have HNO : Hid (validM B V = false) := Lib.hid (invalid_row HI.out.1 (by
            cases hro : rowOk (goodsN V) r with
            | false => rfl
            | true =>
              have := (rowOk_iff.1 hro).1
              rw [← HI.out.2.2.2.2.1, ← HKK.out] at this
              omega))
          go_wp2_with fail
          go_ret
          exact ⟨by rw [HNO.out]; rfl, HR.out.2.2.2⟩
      · obtain rfl : m = i := by omega
        have HT : Hid (V.take m = V) := Lib.hid (List.take_of_length_le (by rw [HVM.out.2.1]; exact Nat.le_refl _))
        have hwant : ∀ g, ofB V m [] 0 g = wanted V g := fun g => by
          unfold ofB wanted
          rw [HT.out]; simp
        have HWANT := Lib.hid hwant
        clear hwant
        go_wp2_with fail
        go_loopw [101] (fun gv wx => ∃ g : Nat, g ≤ k ∧ gv = .int .i64 g ∧ (∀ h, h < g → wanted V h = true) ∧ wx = wo) (fun gv _ => k - (intOf gv).toNat)
        case atStart => exact ⟨0, Nat.zero_le _, rfl, fun h hh => by omega, rfl⟩
        case round =>
          obtain ⟨g, hg, rfl, hw, rfl⟩ := hrel
          have HW := Lib.hid hw
          clear hw
          by_cases hgk : g < k
          · have o1 := (Blk.cell HR.out.1 g).trans (ofA_get (V := V) (i := m) (r := []) (g := 0) (h := g) (by omega))
            rw [HWANT.out] at o1
            have hgi : (g : Int) < 3 := by omega
            cases hwg : wanted V g with
            | false =>
              rw [hwg] at o1
              have HNO : Hid (validM B V = false) := Lib.hid (by
                cases hv : validM B V with
                | false => rfl
                | true =>
                  have := (validM_iff.1 hv).2.2.2 g (by rw [← HKK.out]; exact hgk)
                  rw [hwg] at this
                  cases this)
              clear hwg
              go_wp2_with fail
              go_ret
              exact ⟨by rw [HNO.out]; rfl, HR.out.2.2.2⟩
            | true =>
              rw [hwg] at o1
              have HG := Lib.hid hwg
              clear hwg
              go_wp2_with fail
              go_roundw
              case rel =>
                refine ⟨g + 1, by omega, by go_num, fun h hh => ?_, trivial⟩
                rcases Nat.lt_or_ge h g with h8 | h8
                · exact HW.out h h8
                · rw [show h = g by omega]; exact HG.out
              case measure => simp [intOf]; omega
          · obtain rfl : k = g := by omega
            have HYES : Hid (validM B V = true) := Lib.hid (by
              rw [validM_iff]
              refine ⟨⟨by rw [HVM.out.1]; omega, by rw [HVM.out.1]; omega, fun b hb => ?_, by rw [HVM.out.1, HVM.out.2.1]⟩, by rw [← HKK.out]; omega, fun r hr => ?_, fun g hg => HW.out g (by rw [HKK.out]; exact hg)⟩
              · obtain ⟨j, hj⟩ := List.getElem?_of_mem hb
                have hjl := (List.getElem?_eq_some_iff.1 hj).1
                have := (HR.out.2.1 j (by rw [← HVM.out.1]; exact hjl)).2
                rw [List.getD_eq_getElem?_getD, hj] at this
                unfold budOk at this
                simp only [Option.getD_some, Bool.and_eq_true, decide_eq_true_eq] at this
                exact this
              · obtain ⟨j, hj⟩ := List.getElem?_of_mem hr
                have hjl := (List.getElem?_eq_some_iff.1 hj).1
                have := (HR.out.2.1 j (by rw [← HVM.out.2.1]; exact hjl)).1
                rw [rowV_get hj] at this
                rw [← HKK.out]
                exact this)
            go_wp2_with fail
            go_ret
            exact ⟨by rw [HYES.out]; rfl, HR.out.2.2.2⟩
  · have HNO := Lib.hid (HLEN.out (by omega))
    go_wp2_with fail
    go_ret
    exact ⟨by rw [HNO.out]; rfl, H.out.2.1⟩

/- A region that draws its order: first operations that read, in whatever order, then, waiting for all of them, a few in one forced order (a store ..). No program. -/

theorem wp_region_drew_tail {P : Program} {id : Nat} {Q : Exit → Act → World → Prop} {a : Act} {w : World} {l : List Oper} (n : Nat) (hm : P.follows .mixedOrders = true) (hB : Region.lexTailB .any l.toArray n = true)
    (h : wpQuiet P l.toArray (fun w' => ∃ n, w' = w.drewN n) (fun a' => ∀ w', (∃ n, w' = w.drewN n) → wpList P l.toArray Q (l.drop n) a' w') (l.take n) a) : (Code.region id l.toArray true).wp P Q a w := by
  simp only [Region.lexTailB, Bool.and_eq_true, decide_eq_true_eq] at hB
  obtain ⟨⟨⟨⟨hsel, hn⟩, hs⟩, hc⟩, hlex⟩ := hB
  have hn' : n < l.length := by simpa using hn
  have htl : (l.take n).length = n := by simp; omega
  have hdl : (l.drop n).length = l.toArray.size - n := by simp
  have inv0 : HeadInv .any l.toArray n (Array.replicate l.toArray.size false) :=
    ⟨by simp, fun j oj _ hl => (by rw [getD_replicate_false] at hl; cases hl), fun t _ ht => getD_in (by simpa using ht) (getD_replicate_false _ _)⟩
  have H := heads_lex (C := fun w' => ∃ n, w' = w.drewN n) (md := .any) (g := l.toArray.size - n) hsel hs hc hn (l.take n) 0 _ a (fun j hj => by
    rw [htl] at hj
    simp [hj]) (by simpa using htl) inv0 (by rw [htl]; exact hlex) h
  refine wp_region_any hm ?_
  have := any_of_heads (Q' := Q) (g := l.toArray.size - n) (fun listed a' w' hw' hL => by
    have := wpAny_of_seq (md := .any) (Q' := Q) (l.drop n) n listed a' w' (fun j => by simp [List.getElem?_drop]) (by rw [hdl]; exact hL.1) (hL.2 w' hw')
    rwa [hdl] at this) _ _ _ { w with drawn := w.drawn + 1 } ⟨1, rfl⟩ H
  rw [htl, show n + (l.toArray.size - n) = l.toArray.size from by omega] at this
  exact this

/- TopNash: the walk. -/

theorem ints_get {l : List Int} {i n : Nat} (hl : l.length = n) (h : i < n) : l[i]? = some (l.getD i 0) := by
  rw [List.getD_eq_getElem?_getD, List.getElem?_eq_getElem (by omega)]; rfl
theorem wrapS {z : Int} (h : 0 ≤ z ∧ z ≤ 1000000) : wrap64 z = z := by unfold wrap64; omega
theorem posz_bd {B : List Int} {V : List (List Int)} (hv : validM B V = true) {d : List Int} (hl : d.length ≤ 3) : 1 ≤ posP (ownV V d B.length) ∧ posP (ownV V d B.length) ≤ 1000000000 := by
  have h := posP_bd (ownV V d B.length) (fun x hx => by
    obtain ⟨i, hi, rfl⟩ := List.mem_map.1 hx
    have hiV : i < V.length := by rw [(validM_iff.1 hv).1.2.2.2]; exact List.mem_range.1 hi
    obtain ⟨_, _, h3⟩ := valV_iff.1 (valV_of hv)
    have h4 := worTo_bd (h3 _ (List.mem_of_getElem? (rowV_some hiV))).2 d (i : Int) d.length
    show worToS (rowVS V i) d (i : Int) d.length ≤ 1000
    have e : rowV V i = rowVS V i := rfl
    rw [e] at h4
    omega)
  have hn := (validM_iff.1 hv).1.2.1
  rw [ownV_length] at h
  refine ⟨h.1, Int.le_trans h.2 ?_⟩
  have h1 := pow_le3 (a := 1000) (by omega) hn
  have e : (1000 : Int) ^ 3 = 1000000000 := by decide
  omega
set_option maxRecDepth 100000 in
set_option maxHeartbeats 4000000 in
theorem law_tnash (A : Option Addr) (n c : Nat) (U : Option Addr) (m d : Nat) (B : List Int) (V : List (List Int)) (W : World) (hK : MktArg W A n c U m d B V) :
    Calls Try.prog 3 #[mktV A n c U m d] W fun e w' => e = .returned (.bool true) ∧ Below W.heap.size W w' := by
  obtain ⟨w1, hw1⟩ : ∃ w1, w1 = W.alloc (.cells #[.slice A n c, .slice U m d] 25) := ⟨_, rfl⟩
  have hB1 : Blk w1 W.heap.size 25 #[.slice A n c, .slice U m d] := by rw [hw1]; exact Blk.new _ _ _ rfl
  have hb1 : Below W.heap.size W w1 := by rw [hw1]; exact (Below.refl _ _).alloc (Nat.le_refl _) _
  have HV := Lib.hid (r4valid_any A n c U m d B V w1 (hK.mkt.below hb1) (by have := hK.hc; omega) (by have := hK.hd; omega) hK.hr)
  have H := Lib.hid (And.intro hK (And.intro hB1 hb1))
  obtain ⟨m1, m2, _, _⟩ := hB1.at2
  clear hK hB1 hb1
  unfold mktV
  go_enter Try.func3, Try.ntmps3
  go_wp2_with fail
  rw [← hw1]
  clear hw1
  refine HV.out.mono ?_
  rintro e w2 ⟨rfl, hb2⟩
  have H2 := Lib.hid (And.intro (H.out.2.1.below hb2 H.out.2.1.lt) (H.out.2.2.trans (hb2.mono H.out.2.2.size)))
  clear hb2 m1 m2 HV
  cases hv : validM B V with
  | false =>
    clear hv
    go_wp2_with fail
    refine (tsells_any _).mono ?_
    rintro e w3 ⟨rfl, hb3⟩
    have H3 := Lib.hid (H2.out.2.trans (hb3.mono H2.out.2.size))
    clear hb3
    go_wp2_with fail
    go_ret
    exact ⟨rfl, H3.out⟩
  | true =>
    have hBn := H.out.1.mkt.hB
    have hVm := H.out.1.mkt.hV
    obtain ⟨⟨a1, a2, a3, a4⟩, b1, b2, b3⟩ := validM_iff.1 hv
    obtain rfl : n = m := by omega
    obtain ⟨k, hk⟩ : ∃ k, k = goodsN V := ⟨_, rfl⟩
    rw [← hk] at b1
    have hn3 : 1 ≤ n ∧ n ≤ 3 := by omega
    have hv2 := valid_same hv
    rw [hBn] at hv2
    obtain ⟨b, hb⟩ : ∃ b, b = B.getD 0 0 := ⟨_, rfl⟩
    rw [← hb] at hv2
    have hrow : ∀ (i : Nat) (r : List Int), V[i]? = some r → r.length = k := fun i r hr => by
      rw [hk]; exact (rowOk_iff.1 (b2 r (List.mem_of_getElem? hr))).1
    have HV := Lib.hid (And.intro hv (And.intro hv2 (And.intro hk (And.intro hb (And.intro hrow (And.intro hBn hVm))))))
    obtain ⟨w3, hw3⟩ : ∃ w3, w3 = (w2.alloc (.cells (arr (List.replicate n 0)) 3)).alloc (.cells #[.slice (some ⟨w2.heap.size, 0, none⟩) n n, .slice none 0 0] 28) := ⟨_, rfl⟩
    have hs3 : w3.heap.size = w2.heap.size + 2 := by rw [hw3]; simp
    have hT0 : TnM w2 w3 w3.heap.size (w2.heap.size + 1) w2.heap.size n b V 0 0 0 none 0 [] none 0 [] := {
      box := by rw [hw3]; exact Blk.new _ _ _ (by simp)
      bud := by rw [budT_zero, hw3]; exact (Blk.new _ _ _ rfl).alloc _
      use := World.ownsRow_nil _ _ _ _
      rows := ORows.nil _ _
      cpy := World.ownsRow_nil _ _ _ _
      cpr := ORows.nil _ _
      sep := fun _ _ h => by cases h
      low := by omega
      below := by rw [hw3]; exact ((Below.refl _ _).alloc (Nat.le_refl _) _).alloc (by simp) _ }
    have HT0 := Lib.hid hT0
    obtain ⟨m1, m2, _, _⟩ := H2.out.1.at2
    have hm1 := make_ints n (by omega)
    have hs2 := H2.out.2.size
    clear hv a1 a2 a3 a4 b2 b3 hBn hVm hv2 hb hrow hT0 hk
    go_upto_region 4 with fail
    rw [← hw3]
    clear hm1 m1 m2 hw3
    obtain ⟨m1, m2, _, _⟩ := (H2.out.1.below HT0.out.below H2.out.1.lt).at2
    obtain ⟨bs, hbs⟩ : ∃ bs, bs = w3.heap.size := ⟨_, rfl⟩
    obtain ⟨gB, hgB⟩ : ∃ gB, gB = w2.heap.size := ⟨_, rfl⟩
    rw [← hbs, ← hgB] at HT0
    rw [← hbs] at hs3
    have hB2 := H2.out.1.lt
    have HG := Lib.hid (And.intro hbs hgB)
    rw [← hgB] at hs3 hs2 hB2 ⊢
    clear hbs hgB
    go_wp2_with fail
    clear m1 m2 hs3
    go_loopw [4, 30] (fun dv iv wx => ∃ (j : Nat) (U2 : Option Addr) (uc : Nat) (vs : List Value) (D : Option Addr) (dc : Nat) (us : List Value), j ≤ n ∧ iv = .int .i64 j ∧ dv = .slice D j dc ∧ TnM w2 wx bs (gB + 1) gB n b V j j j U2 uc vs D dc us) (fun _ iv _ => n - (intOf iv).toNat)
    case atStart => exact ⟨0, none, 0, [], none, 0, [], Nat.zero_le _, rfl, rfl, HT0.out⟩
    case round =>
      obtain ⟨j, U2, uc, vs, D, dc, us, hj, rfl, rfl, hT⟩ := hrel
      obtain ⟨wo, rfl⟩ : ∃ wo : World, wo = wr := ⟨_, rfl⟩
      have HT := Lib.hid hT
      clear hT
      by_cases hlt : j < n
      · have hW : Below W.heap.size W wo := H2.out.2.trans (HT.out.below.mono H2.out.2.size)
        obtain ⟨m1, m2, _, _⟩ := (H2.out.1.below HT.out.below H2.out.1.lt).at2
        obtain ⟨x1, x2, _, _⟩ := HT.out.box.at2
        obtain ⟨aB, hAB, _, hcB⟩ := (H.out.1.mkt.budgets.below hW).some_ (by have := HV.out.2.2.2.2.2.1; omega)
        subst hAB
        have c0 := hcB 0 _ (ints_get HV.out.2.2.2.2.2.1 (by omega))
        rw [← HV.out.2.2.2.1] at c0
        have c0' : wo.cell? aB = some (.int .i64 b) := by simpa [Addr.add] using c0
        have c2 : wo.cell? ⟨gB, j, none⟩ = some (.int .i64 0) := by
          rw [HT.out.bud.cell, arr_get]
          unfold budT
          rw [List.getElem?_append_right (by simp), List.getElem?_replicate, if_pos (by simp; omega)]
          rfl
        have c3 := HT.out.bud.frozen j
        obtain ⟨r, hr⟩ : ∃ r, V[j]? = some r := ⟨_, List.getElem?_eq_getElem (by have := HV.out.2.2.2.2.2.2; omega)⟩
        obtain ⟨aU, A2, cr, hU, hcell0, hrc, hc2, hI⟩ := H.out.1.mkt.uses j r hr
        subst hU
        have hcell := (hW.cell (lt_of_cell hcell0)).trans hcell0
        have hrl := HV.out.2.2.2.2.1 j r hr
        rw [hrl] at hcell hrc
        have l1 : (j : Int) < (n : Int) := by omega
        have l2 : (0 : Int) ≤ (j : Int) := by omega
        have HI := Lib.hid (And.intro hI (And.intro hr (And.intro hrl hW)))
        clear hcB hI hr hrl hW hcell0
        go_upto_region 8 with fail
        refine wp_region_drew_tail 8 (by kernel_rfl) (by kernel_rfl) ?_
        simp only [List.take_succ_cons, List.take_zero, List.drop_succ_cons, List.drop_zero]
        repeat (go_big_quiet_step (fail))
        refine wpQuiet_nil ?_
        rintro _ ⟨nq, rfl⟩
        go_upto_region 9 with fail
        have hT8 := (HT.out.drewN nq).budget hlt
        obtain ⟨w8, hw8⟩ : ∃ w8, w8 = (wo.drewN nq).setCell ⟨gB, j, none⟩ (.int .i64 b) := ⟨_, rfl⟩
        rw [← hw8] at hT8
        rw [← hw8]
        clear hw8
        have hb8 : Below W.heap.size W w8 := H2.out.2.trans (hT8.below.mono H2.out.2.size)
        have HT8 := Lib.hid (And.intro hT8 hb8)
        obtain ⟨y1, y2, _, _⟩ := hT8.box.at2
        have y5 : w8.drew.cell? ⟨gB + 1, 1, none⟩ = some (.slice U2 j uc) := y2
        have HCL := Lib.hid fun w' (hb : Below w8.heap.size w8 w') => clone_any A2 k cr r w' HI.out.2.2.1 (by omega) ((HI.out.1.below hb8).below hb)
        have hst : ∀ (w3 : World) (A3 : Option Addr) (c3 : Nat), w3.ownsRow w8.drew.heap.size 3 1 (.slice A3 k c3) k (r.map (Value.int .i64)) → Below w8.drew.heap.size w8.drew w3 → TnM w2 w3 bs (gB + 1) gB n b V (j + 1) j j U2 uc vs D dc us := fun w3 A3 c3 _ hb3 => (hT8.drewN 1).next hb3
        have HST := Lib.hid hst
        clear hst hT8 hb8 x1 x2 c0 c0' c2 c3 hcell m1 m2
        go_region_law (first
          | (go_simp; go_at_call 6; refine (HCL.out _ (below_drewN (Below.refl _ w8) 1)).mono ?_; rintro e w3 ⟨A3, c3, rfl, hown3, hb3⟩; have hq3 := HST.out w3 A3 c3 hown3 hb3; have hc3 := hq3.box.at2.2.1; have hc4 := fun o => (hq3.box.alloc o).at2.2.1; have hlo := hq3.low)
          | (refine step_app1k (w := w3) sty_intss (.tmp 44) (.tmp 47) (by rfl) (by rfl) bs U2 j uc vs (.slice A3 k c3) (by simp [Value.oneCell']) (by rfl) hq3.use (by rfl) (by omega) (by omega) ?_; intro A9 k9 w9 hown9 hg9 hbl9 hk91 hk92 hst9 _; have hc9 := (hq3.box.below hbl9 (by omega)).at2.2.1; have hf9 := (hq3.box.below hbl9 (by omega)).frozen 1))
        all_goals
          have hT9 := TnM.uses (HT8.out.1.drewN 1) HI.out.2.1 hb3 (by rw [HI.out.2.2.1]; exact hown3) (by rw [HI.out.2.2.1]; exact hown9) hg9 hbl9 hst9
          rw [HI.out.2.2.1] at hT9
          clear hown3 hb3 hq3 hc3 hc4 hlo hown9 hg9 hbl9 hst9 hc9 hf9
          go_upto_region 10 with fail
          obtain ⟨wA, hwA⟩ : ∃ wA, wA = w9.setCell ⟨gB + 1, 1, none⟩ (.slice A9 (j + 1) k9) := ⟨_, rfl⟩
          rw [← hwA] at hT9 ⊢
          clear hwA
          have hbA : Below W.heap.size W wA := H2.out.2.trans (hT9.below.mono H2.out.2.size)
          have HA := Lib.hid (And.intro hT9 hbA)
          clear hT9 hbA
          go_wp2_with fail
          refine (clone_any A2 k cr r _ HI.out.2.2.1 (by omega) (HI.out.1.below HA.out.2)).mono ?_
          rintro e wB ⟨A4, c4, rfl, hown4, hb4⟩
          have hTB := HA.out.1.next hb4
          have hlo := hTB.low
          go_wp2_with (at_builtin; refine app1w sty_intss rfl _ _ rfl bs D j dc us (.slice A4 k c4) (by simp [Value.oneCell']) rfl hTB.cpy wB.heap.size rfl rfl (by omega) (by omega) ?_)
          intro A5 k5 wC hown5 hg5 hbl5 hk51 hk52 hst5
          have hTC := TnM.copy HA.out.1 HI.out.2.1 hb4 (by rw [HI.out.2.2.1]; exact hown4) (by rw [HI.out.2.2.1]; exact hown5) hg5 hbl5 hst5
          have HC := Lib.hid hTC
          clear hTC hown5 hg5 hbl5 hst5 hTB hlo hown4 hb4
          go_wp2_with fail
          go_roundw
          case rel => exact ⟨j + 1, A9, k9, _, A5, k5, _, by omega, by go_num, rfl, HC.out⟩
          case measure => simp [intOf]; omega
      · obtain rfl : n = j := by omega
        have hVn := HV.out.2.2.2.2.2.2
        have hlr : (List.replicate n b).length = n := List.length_replicate
        obtain ⟨r, hr⟩ : ∃ r, prF (List.replicate n b) V = some r := by
          obtain ⟨r, hr⟩ := found_any _ _ HV.out.2.1
          exact ⟨r, by unfold prF; rw [if_pos HV.out.2.1]; exact hr⟩
        have hS := (prF_ok hr).2
        have hbb : ∀ i, i < (List.replicate n b).length → (List.replicate n b).getD i 0 = b := fun i hi => by
          rw [List.getD_eq_getElem?_getD, List.getElem?_replicate, if_pos (by omega)]; rfl
        obtain ⟨f, hf⟩ : ∃ f : Nat → Rat, f = fun i => worTo V r.1 r.2 i (goodsN V) := ⟨_, rfl⟩
        have hWo : ∀ i, i < n → WoT (f i) := fun i hi => by rw [hf]; exact wor_eq HV.out.2.1 hS hbb (by omega)
        have hTop : ∀ dd : List Int, dd.length = k → (∀ x ∈ dd, 0 ≤ x ∧ x < (n : Int)) → (0 : Int) ∉ ownV V dd n → ((posP (ownV V dd n) : Int) : Rat) ≤ prodQ f n := fun dd h1 h2 h3 => by
          have := nash_top HV.out.2.1 hS hbb (d := dd) (by rw [h1]; exact HV.out.2.2.1) (by rw [hlr]; exact h2) (by rw [hlr]; exact h3)
          rw [hlr] at this
          rw [hf]; exact this
        have hget : ∀ i, i < n → (worL V n (goodsN V) r)[i]? = some (f i) := fun i hi => by
          unfold worL
          rw [List.getElem?_map, List.getElem?_range hi, hf]; rfl
        have hgl : (worL V n (goodsN V) r).length = n := by unfold worL; simp
        have hmk := HT.out.mkt hVn
        have HW := Lib.hid (mworth_any (some ⟨gB, 0, none⟩) n n U2 n uc (List.replicate n b) V wo hmk (by omega) (by omega) (fun x hx => by
          obtain ⟨q, hq⟩ := List.getElem?_of_mem hx
          have := HV.out.2.2.2.2.1 q x hq
          omega) (found_any _ _))
        have HF := Lib.hid (And.intro hWo (And.intro hTop (And.intro hget (And.intro hgl hr))))
        have hmat := HT.out.mat hVn
        have HM := Lib.hid (And.intro hmat (H2.out.2.trans (HT.out.below.mono H2.out.2.size)))
        obtain ⟨x1, x2, _, _⟩ := HT.out.box.at2
        clear hVn hS hbb hf hWo hTop hget hgl hmk hmat hr
        go_wp2_with fail
        clear x1 x2
        refine HW.out.mono ?_
        intro ev w5 hpost
        unfold WorthPost at hpost
        rw [HF.out.2.2.2.2, hlr] at hpost
        obtain ⟨hb5, WA, wc5, rfl, hF5⟩ := hpost
        have H5 := Lib.hid (And.intro hF5 (And.intro (HM.out.1.below hb5) (HM.out.2.trans (hb5.mono HM.out.2.size))))
        clear hF5 hb5 hlr HW
        go_wp2_with fail
        refine (nash_any D n dc V w5 HV.out.2.2.2.2.2.2 (by omega) (mat_s H5.out.2.1)).mono ?_
        intro ev w6 hpost
        unfold NashPost at hpost
        rcases hpost with ⟨h0, _⟩ | ⟨_, DA, dcap, rfl, hdl, hdm, hDI, hb6⟩
        · rw [valV_of HV.out.1] at h0; cases h0
        have hk' : (rowVS V 0).length = k := by rw [HV.out.2.2.1]; rfl
        rw [HV.out.2.2.2.2.2.2] at hDI ⊢
        rw [hk'] at hDI hdl ⊢
        have hd1 := dz_length n k (nashB V)
        have hd2 := dz_lt (n := n) (by omega) k (nashB V)
        obtain ⟨dd, hdd⟩ : ∃ dd, dd = dz n k (nashB V) := ⟨_, rfl⟩
        rw [← hdd] at hd1 hd2 hDI ⊢
        obtain ⟨z, hz⟩ : ∃ z, z = posP (ownV V dd n) := ⟨_, rfl⟩
        rw [← hz]
        have hM6 := H5.out.2.1.below hb6
        obtain ⟨aD, hDA, _, hcD⟩ := hM6.some_ (by have := HV.out.2.2.2.2.2.2; omega)
        subst hDA
        obtain ⟨A0, cc0, hc0, _, _, _⟩ := hcD 0 (rowV V 0) (rowV_some (by have := HV.out.2.2.2.2.2.2; omega))
        have hk2 : (rowV V 0).length = k := hk'
        rw [hk2] at hc0
        have hc0' : w6.cell? aD = some (.slice A0 k cc0) := by simpa [Addr.add] using hc0
        have H6 := Lib.hid (And.intro (H5.out.1.below hb6) (And.intro hM6 (And.intro hDI (And.intro hd1 (And.intro hd2 (And.intro hz (H5.out.2.2.trans (hb6.mono H5.out.2.2.size))))))))
        clear hb6 hDI hd1 hd2 hz hM6 hcD hk' hk2 hdd
        go_wp2_with fail
        have hp0 : Blk (w6.alloc (.cells #[.int .i64 1, .int .i64 1] 37)) w6.heap.size 37 #[.int .i64 (prodQ f 0).num, .int .i64 ((prodQ f 0).den : Int)] := Blk.new _ _ _ rfl
        have hpb : Below w6.heap.size w6 (w6.alloc (.cells #[.int .i64 1, .int .i64 1] 37)) := (Below.refl _ _).alloc (Nat.le_refl _) _
        have HP0 := Lib.hid (And.intro hp0 hpb)
        clear hp0 hpb hc0 hc0'
        go_loopw [92] (fun iv wx => ∃ i : Nat, i ≤ n ∧ iv = .int .i64 i ∧ Blk wx w6.heap.size 37 #[.int .i64 (prodQ f i).num, .int .i64 ((prodQ f i).den : Int)] ∧ Below w6.heap.size w6 wx) (fun iv _ => n - (intOf iv).toNat)
        case atStart => exact ⟨0, Nat.zero_le _, rfl, HP0.out.1, HP0.out.2⟩
        case round =>
          obtain ⟨i, hi, rfl, hPk, hbl⟩ := hrel
          obtain ⟨wp, rfl⟩ : ∃ wp : World, wp = wr := ⟨_, rfl⟩
          have hgpl := hPk.lt
          have HR := Lib.hid (And.intro hPk hbl)
          have hws := hbl.size
          clear hPk hbl
          by_cases hin : i < n
          · obtain ⟨aW, hWA, _, hcW⟩ := (H6.out.1.below HR.out.2).some_ (by rw [HF.out.2.2.2.1]; omega)
            subst hWA
            obtain ⟨v1, v2⟩ := hcW i _ (HF.out.2.2.1 i hin)
            obtain ⟨p1, p2, _, _⟩ := HR.out.1.at2
            have hwo := HF.out.1 i hin
            have HMU := Lib.hid fun w' => tmul_use (by omega) HF.out.1 hin w'
            have HPB := HR.out.1
            obtain ⟨F, hF⟩ : ∃ F, F = f i := ⟨_, rfl⟩
            obtain ⟨P, hP⟩ : ∃ P, P = prodQ f i := ⟨_, rfl⟩
            obtain ⟨P2, hP2⟩ : ∃ P, P = prodQ f (i + 1) := ⟨_, rfl⟩
            rw [← hF] at v1 v2 hwo HMU
            rw [← hP] at p1 p2 HMU HPB
            rw [← hP2] at HMU
            have HPB2 := Lib.hid (And.intro HPB hP2)
            obtain ⟨s1, s2, s3⟩ := hwo
            have hd0 := den_pos F
            have n1 : ¬ (F.den : Int) < 1 := by omega
            have n2 : ¬ (524288 : Int) < (F.den : Int) := by omega
            have n3 : ¬ F.num < 1 := by omega
            have n4 : ¬ (524288 : Int) < F.num := by omega
            have l1 : (i : Int) < (n : Int) := by omega
            have l2 : (0 : Int) ≤ (i : Int) := by omega
            clear hcW HPB hF hP hP2 s1 s2 s3
            go_wp2_with fail
            refine (HMU.out _).mono ?_
            rintro e wq ⟨rfl, hbq⟩
            have hPq := (HPB2.out.1.alloc (.cells #[.int .i64 F.num, .int .i64 (F.den : Int)] 37)).below hbq (by simp; omega)
            obtain ⟨q1, q2, q3, q4⟩ := hPq.at2
            have hres := (hPq.set_ 0 (.int .i64 P2.num)).set_ 1 (.int .i64 (P2.den : Int))
            have hbR : Below w6.heap.size w6 ((wq.setCell ⟨w6.heap.size, 0, none⟩ (.int .i64 P2.num)).setCell ⟨w6.heap.size, 1, none⟩ (.int .i64 (P2.den : Int))) :=
              (((HR.out.2.alloc (by omega) _).trans (hbq.mono (by simp; omega))).setCell (Nat.le_refl _) _).setCell (Nat.le_refl _) _
            rw [HPB2.out.2] at hres hbR
            have HQ := Lib.hid (And.intro hres hbR)
            have HP2 := Lib.hid HPB2.out.2
            clear hres hbR hPq hbq v1 v2 p1 p2
            go_wp2_with fail
            go_roundw
            case rel =>
              refine ⟨i + 1, by omega, by go_num, ?_, ?_⟩
              · rw [HP2.out]; exact HQ.out.1
              · rw [HP2.out]; exact HQ.out.2
            case measure => simp [intOf]; omega
          · obtain rfl : n = i := by omega
            have hm2 := make_ints n (by omega)
            have hh0 : Blk (wp.alloc (.cells (arr (List.replicate n 0)) 3)) wp.heap.size 3 (arr (havT V dd n 0)) := by rw [havT_zero]; exact Blk.new _ _ _ rfl
            have hhb : Below wp.heap.size wp (wp.alloc (.cells (arr (List.replicate n 0)) 3)) := (Below.refl _ _).alloc (Nat.le_refl _) _
            have HH0 := Lib.hid (And.intro hh0 hhb)
            clear hh0 hhb
            go_wp2_with fail
            clear hm2
            go_loopw [123] (fun iv wx => ∃ g : Nat, g ≤ k ∧ iv = .int .i64 g ∧ Blk wx wp.heap.size 3 (arr (havT V dd n g)) ∧ Below wp.heap.size wp wx) (fun iv _ => k - (intOf iv).toNat)
            case atStart => exact ⟨0, Nat.zero_le _, rfl, HH0.out.1, HH0.out.2⟩
            case round =>
              obtain ⟨g, hg, rfl, hHk, hbl⟩ := hrel
              obtain ⟨wh, rfl⟩ : ∃ wh : World, wh = wr := ⟨_, rfl⟩
              have HR3 := Lib.hid (And.intro hHk (And.intro hbl (HR.out.2.trans (hbl.mono HR.out.2.size))))
              have hhs := hbl.size
              clear hHk hbl
              by_cases hgk : g < k
              · obtain ⟨aI, hDI, _, hcI⟩ := (((H6.out.2.2.1.below HR3.out.2.2)).some_ (by rw [H6.out.2.2.2.1]; omega))
                injection hDI with hDI
                subst hDI
                have hg1 := ints_get H6.out.2.2.2.1 hgk
                have hx := H6.out.2.2.2.2.1 (dd.getD g 0) (List.mem_of_getElem? hg1)
                obtain ⟨xn, hxn⟩ : ∃ xn : Nat, dd.getD g 0 = (xn : Int) := ⟨(dd.getD g 0).toNat, by omega⟩
                rw [hxn] at hg1 hx
                have c1 := hcI g _ hg1
                have hxl : xn < n := by omega
                obtain ⟨aD2, hD2, _, hcD⟩ := (H6.out.2.1.below HR3.out.2.2).some_ (by have := HV.out.2.2.2.2.2.2; omega)
                injection hD2 with hD2
                subst hD2
                have hVx : V[xn]? = some (rowV V xn) := rowV_some (by have := HV.out.2.2.2.2.2.2; omega)
                have hrl := HV.out.2.2.2.2.1 xn _ hVx
                obtain ⟨A7, c7, hc7, _, _, hI7⟩ := hcD xn _ hVx
                rw [hrl] at hc7
                obtain ⟨aR, rfl, _, hcR⟩ := hI7.some_ (by rw [hrl]; omega)
                have c2 := hcR g _ (ints_get hrl hgk)
                have hub := (mkOk_of HV.out.1).2.2 xn g
                have hold : 0 ≤ worToS (rowVS V xn) dd (xn : Int) g ∧ worToS (rowVS V xn) dd (xn : Int) g ≤ 100 * g := worTo_bd (by
                  obtain ⟨_, _, h3⟩ := valV_iff.1 (valV_of HV.out.1)
                  exact (h3 _ (List.mem_of_getElem? hVx)).2) dd (xn : Int) g
                have hset := havT_set (V := V) (n := n) hxn
                have c3 : wh.cell? ⟨wp.heap.size, xn, none⟩ = some (.int .i64 (worToS (rowVS V xn) dd (xn : Int) g)) := by
                  rw [HR3.out.1.cell, arr_get, havT_get hxl]; rfl
                have c4 := HR3.out.1.frozen xn
                have e7 : (rowV V xn).getD g 0 = useN V xn g := rfl
                rw [e7] at c2
                generalize useN V xn g = u at *
                generalize worToS (rowVS V xn) dd (xn : Int) g = o at *
                have hw : wrap64 (o + u) = o + u := wrapS (by omega)
                have hres : Blk (wh.setCell ⟨wp.heap.size, xn, none⟩ (.int .i64 (o + u))) wp.heap.size 3 (arr (havT V dd n (g + 1))) := by
                  have := HR3.out.1.set_ xn (.int .i64 (o + u))
                  rwa [arr_set, hset] at this
                have HRS := Lib.hid hres
                have l1 : (g : Int) < (k : Int) := by omega
                have l2 : (0 : Int) ≤ (g : Int) := by omega
                have l3 : (xn : Int) < (n : Int) := by omega
                have l4 : (0 : Int) ≤ (xn : Int) := by omega
                clear hcI hg1 hx hcD hVx hrl hI7 hcR hset hres hxn e7 hub hold
                go_upto_region 30 with fail
                refine wp_region_drew_tail 13 (by kernel_rfl) (by kernel_rfl) ?_
                simp only [List.take_succ_cons, List.take_zero, List.drop_succ_cons, List.drop_zero]
                repeat (go_big_quiet_step (fail))
                refine wpQuiet_nil ?_
                rintro _ ⟨nq, rfl⟩
                have hres2 : Blk ((wh.drewN nq).setCell ⟨wp.heap.size, xn, none⟩ (.int .i64 (o + u))) wp.heap.size 3 (arr (havT V dd n (g + 1))) := HRS.out
                have hbl2 : Below wp.heap.size wp ((wh.drewN nq).setCell ⟨wp.heap.size, xn, none⟩ (.int .i64 (o + u))) := (below_drewN HR3.out.2.1 nq).setCell (Nat.le_refl _) _
                have HN := Lib.hid (And.intro hres2 hbl2)
                clear hres2 hbl2
                go_wp2_with fail
                go_roundw
                case rel => exact ⟨g + 1, by omega, by go_num, HN.out.1, HN.out.2⟩
                case measure => simp [intOf]; omega
              · obtain rfl : k = g := by omega
                have hHo : Blk wh wp.heap.size 3 (arr (ownV V dd n)) := by
                  have := HR3.out.1
                  rw [← H6.out.2.2.2.1, havT_own] at this
                  exact this
                have hIo := blk_ints hHo
                have hPh := HR.out.1.below HR3.out.2.1 (by omega)
                obtain ⟨p1, p2, _, _⟩ := hPh.at2
                have hbd := prod_bd (by omega) HF.out.1 (Nat.le_refl n)
                have htp := HF.out.2.1 dd H6.out.2.2.2.1 H6.out.2.2.2.2.1
                have hzd := posz_bd HV.out.1 (d := dd) (by rw [H6.out.2.2.2.1]; omega)
                rw [HV.out.2.2.2.2.2.1] at hzd
                obtain ⟨hz1, hz2⟩ := hzd
                have hzz := H6.out.2.2.2.2.2.1
                have hWh : Below W.heap.size W wh := H6.out.2.2.2.2.2.2.trans (HR3.out.2.2.mono H6.out.2.2.2.2.2.2.size)
                obtain ⟨P, hP⟩ : ∃ P, P = prodQ f n := ⟨_, rfl⟩
                rw [← hP] at p1 p2 hbd htp
                rw [← hzz] at htp hz1 hz2
                have d1 : ∀ s : Desc wh, s.val.cell? ⟨w6.heap.size, 0, none⟩ = some (.int .i64 P.num) := fun s => s.cell p1
                have d2 : ∀ s : Desc wh, s.val.cell? ⟨w6.heap.size, 1, none⟩ = some (.int .i64 (P.den : Int)) := fun s => s.cell p2
                have HSL : Hid (∀ s : Desc wh, Calls Try.prog 5 #[] s.val fun e w'' => e = .returned (.bool true) ∧ ∃ s' : Desc wh, w'' = s'.val) := Lib.hid fun s => Calls.desc_of (tsells_any s.val)
                have HCT : Hid (∀ s : Desc wh, Calls Try.prog 10 #[.slice (some ⟨wp.heap.size, 0, none⟩) n n, .int .i64 0] s.val fun e w'' => e = .returned (.bool (has (ownV V dd n) 0)) ∧ ∃ s' : Desc wh, w'' = s'.val) := Lib.hid fun s => Calls.desc_of_same (contains_any _ n n (ownV V dd n) 0 s.val (ownV_length _ _ _) (by omega) (hIo.below s.below))
                have HO := Lib.hid (And.intro hbd (And.intro htp (And.intro hz1 hWh)))
                have HZ2 := Lib.hid hz2
                clear hHo hIo hPh hbd htp hz1 hz2 hzz hWh hP
                cases hh : has (ownV V dd n) 0 with
                | true =>
                  rw [hh] at HCT
                  clear hh
                  go_upto_region 32 with fail
                  refine wp_region_desc (by kernel_rfl) (by kernel_rfl) ?_
                  repeat (go_big_quiet_step (first | (go_at_call 10; exact HCT.out _) | (go_at_call 5; exact HSL.out _)))
                  refine wpQuiet_nil ?_
                  rintro _ ⟨sd, rfl⟩
                  have hb8 := sd.below
                  generalize sd.val = w8 at hb8 ⊢
                  clear d1 d2
                  go_wp2_with fail
                  go_ret
                  exact ⟨rfl, HO.out.2.2.2.trans (hb8.mono HO.out.2.2.2.size)⟩
                | false =>
                  rw [hh] at HCT
                  have hni : (0 : Int) ∉ ownV V dd n := by
                    unfold has at hh
                    exact of_decide_eq_false hh
                  have hle := HO.out.2.1 hni
                  have hzb : z ≤ 1000000000 := HZ2.out
                  have HOF : Hid (∀ s : Desc wh, Calls Try.prog 12 #[.int .i64 z, .int .i64 1] s.val fun e w'' => e = .returned (.agg #[.int .i64 z, .int .i64 1]) ∧ ∃ s' : Desc wh, w'' = s'.val) := Lib.hid fun s => Calls.desc_of (tof_use ⟨HO.out.2.2.1, hzb⟩ s.val)
                  have HLS : Hid (∀ s : Desc wh, Calls Try.prog 11 #[.agg #[.int .i64 P.num, .int .i64 (P.den : Int)], .agg #[.int .i64 z, .int .i64 1]] s.val fun e w'' => e = .returned (.bool false) ∧ ∃ s' : Desc wh, w'' = s'.val) := Lib.hid fun s => Calls.desc_of (tless_use HO.out.1 HO.out.2.2.1 hle s.val)
                  clear hh hni hle hzb
                  go_upto_region 32 with fail
                  refine wp_region_desc (by kernel_rfl) (by kernel_rfl) ?_
                  repeat (go_big_quiet_step (first | (go_at_call 10; exact HCT.out _) | (go_at_call 12; exact HOF.out _) | (go_at_call 11; exact HLS.out _) | (go_at_call 5; exact HSL.out _)))
                  refine wpQuiet_nil ?_
                  rintro _ ⟨sd, rfl⟩
                  have hb8 := sd.below
                  generalize sd.val = w8 at hb8 ⊢
                  clear d1 d2
                  go_wp2_with fail
                  go_ret
                  exact ⟨rfl, HO.out.2.2.2.trans (hb8.mono HO.out.2.2.2.size)⟩
end Go.Proofs.Ytoeohpkdjlfooaa
