/- Laws and contracts that the proof of TopMiddle uses, part 4. -/
import Derived.Test.YtpoibiakfjkebaaTopMiddleM3
import Derived.Test.YtpoibiakfjkebaaTopMiddleM1
import Derived.Test.YtpoibiakfjkebaaTopMiddleM2
import Derived.Deep.LoopGhost
import Derived.Deep.DeepCutAuto
import Derived.Deep.QuietTactic
import Derived.BigQuiet
import Derived.Below
import Derived.StillTail
namespace Go.Proofs.Ytpoibiakfjkebaa
open Go.RowKit

/- Contracts: slices.IndexFunc and ContainsFunc of ints, for whatever function they are called with. -/

/-- The first place where something is true; -1: none. -/
def fidx (p : Int → Bool) (xs : List Int) : Int := match xs.findIdx? p with
  | some i => i
  | none => -1
theorem fidx_hit {p : Int → Bool} {xs : List Int} {k : Nat} {x : Int} (hx : xs[k]? = some x) (h : p x = true) (hn : ∀ y ∈ xs.take k, p y = false) : fidx p xs = k := by
  have : xs.findIdx? p = some k := by
    obtain ⟨hk, he⟩ := List.getElem?_eq_some_iff.1 hx
    rw [List.findIdx?_eq_some_iff_getElem]
    refine ⟨hk, by rw [he]; exact h, fun j hj => ?_⟩
    have := hn xs[j] (List.mem_of_getElem? (i := j) (by rw [List.getElem?_take_of_lt hj, List.getElem?_eq_getElem (by omega)]))
    simp [this]
  unfold fidx; rw [this]
theorem fidx_miss {p : Int → Bool} {xs : List Int} (hn : ∀ y ∈ xs, p y = false) : fidx p xs = -1 := by
  have : xs.findIdx? p = none := by
    rw [List.findIdx?_eq_none_iff]
    exact fun x hx => hn x hx
  unfold fidx; rw [this]
theorem fidx_any (p : Int → Bool) (xs : List Int) : decide (0 ≤ fidx p xs) = xs.any p := by
  unfold fidx
  cases h : xs.findIdx? p with
  | none =>
    rw [List.findIdx?_eq_none_iff] at h
    have : xs.any p = false := List.any_eq_false.2 fun x hx => by rw [h x hx]; simp
    rw [this]; rfl
  | some i =>
    obtain ⟨hi, h1, _⟩ := List.findIdx?_eq_some_iff_getElem.1 h
    have : xs.any p = true := List.any_eq_true.2 ⟨_, List.getElem_mem hi, h1⟩
    rw [this]
    exact decide_eq_true (Int.natCast_nonneg i)

set_option maxHeartbeats 800000 in
theorem indexF_gen (K : FuncId) (caps : Array Value) (hK : EntF K) (A : Option Addr) (n cap : Nat) (xs : List Int) (w : World) (Inv : World → Prop) (p : Int → Bool) (hl : xs.length = n) (hn : n ≤ 9223372036854775807)
    (h0 : Inv w) (hI : ∀ w', Inv w' → Ints w' A xs) (hc : ∀ x ∈ xs, ∀ w', Inv w' → Calls Try.prog K (#[.int .i64 x] ++ caps) w' fun e w'' => e = .returned (.bool (p x)) ∧ Inv w'') :
    Calls Try.prog 52 #[.slice A n cap, .func (.func K) #[] caps] w fun e w' => e = .returned (.int .i64 (fidx p xs)) ∧ Inv w' := by
  unfold EntF at hK
  have H := Lib.hid (And.intro hl (And.intro h0 (And.intro hI hc)))
  clear hl h0 hI hc
  go_enter Try.func52, Try.ntmps52
  go_wp2_with fail
  go_loopw [8] (fun i wx => ∃ k : Nat, k ≤ n ∧ i = .int .i64 k ∧ Inv wx ∧ ∀ y ∈ xs.take k, p y = false) (fun i _ => n - (intOf i).toNat)
  case atStart => exact ⟨0, Nat.zero_le _, rfl, H.out.2.1, by simp⟩
  case round =>
    obtain ⟨k, hk, rfl, hv, ha⟩ := hrel
    have HA := Lib.hid (And.intro hv ha)
    clear hv ha
    by_cases hlt : k < n
    · obtain ⟨x, hx⟩ : ∃ x, xs[k]? = some x := ⟨_, List.getElem?_eq_getElem (by have := H.out.1; omega)⟩
      obtain ⟨ad, rfl, hcx⟩ := H.out.2.2.1 wr HA.out.1 k (.int .i64 x) (by rw [List.getElem?_map, hx]; rfl)
      have HX := Lib.hid hx
      have HC := Lib.hid (H.out.2.2.2 x (List.mem_of_getElem? hx) wr HA.out.1)
      have l1 : (k : Int) < (n : Int) := by omega
      clear hx
      go_wp2_with fail
      refine HC.out.mono ?_
      rintro e w2 ⟨rfl, hv2⟩
      have HV := Lib.hid hv2
      clear hv2
      cases hb : p x
      · have HN : Hid (∀ y ∈ xs.take (k + 1), p y = false) := Lib.hid (fun y hy => by
          rw [List.take_add_one, HX.out] at hy
          rcases List.mem_append.1 hy with hy | hy
          · exact HA.out.2 y hy
          · simp at hy; subst hy; exact hb)
        clear hb
        go_wp2_with fail
        go_roundw
        case rel => exact ⟨k + 1, by omega, by go_num, HV.out, HN.out⟩
        case measure => simp [intOf]; omega
      · have HN : Hid (fidx p xs = k) := Lib.hid (fidx_hit HX.out hb HA.out.2)
        clear hb
        go_wp2_with fail
        go_ret
        exact ⟨ret_int HN.out.symm, HV.out⟩
    · have HN : Hid (fidx p xs = -1) := Lib.hid (fidx_miss (by have h := HA.out.2; rwa [List.take_of_length_le (by rw [H.out.1]; omega)] at h))
      have l1 : ¬ (k : Int) < (n : Int) := by omega
      go_wp2_with fail
      go_ret
      exact ⟨ret_int HN.out.symm, HA.out.1⟩

theorem containsF_gen (K : FuncId) (caps : Array Value) (hK : EntF K) (A : Option Addr) (n cap : Nat) (xs : List Int) (w : World) (Inv : World → Prop) (p : Int → Bool) (hl : xs.length = n) (hn : n ≤ 9223372036854775807)
    (h0 : Inv w) (hI : ∀ w', Inv w' → Ints w' A xs) (hc : ∀ x ∈ xs, ∀ w', Inv w' → Calls Try.prog K (#[.int .i64 x] ++ caps) w' fun e w'' => e = .returned (.bool (p x)) ∧ Inv w'') :
    Calls Try.prog 28 #[.slice A n cap, .func (.func K) #[] caps] w fun e w' => e = .returned (.bool (xs.any p)) ∧ Inv w' := by
  have HC := Lib.hid (indexF_gen K caps hK A n cap xs w Inv p hl hn h0 hI hc)
  clear hl h0 hI hc
  go_enter Try.func28, Try.ntmps28
  go_wp2_with fail
  refine HC.out.mono ?_
  rintro e w' ⟨rfl, hv⟩
  have HV := Lib.hid hv
  have HD := Lib.hid (fidx_any p xs)
  clear hv
  generalize fidx p xs = r at HD ⊢
  go_wp2_with fail
  go_ret
  exact ⟨ret_bool HD.out, HV.out⟩

/- The matrix of margins as it grows, and its cells: plain Lean. -/
open Go.RowKit Mid

/-- Is the pair x, y met when the outer place is i and the inner one j? -/
def metP (b : List Nat) (i j x y : Nat) : Bool := decide (b.idxOf x < b.idxOf y ∧ (b.idxOf x < i ∨ (b.idxOf x = i ∧ b.idxOf y < j)))
/-- The matrix when r ballots are over and the next one is met up to i, j. -/
def stM (n : Nat) (B : List (List Nat)) (r i j x y : Nat) : Int :=
  if x < n ∧ y < n then mg (B.take r) x y + (if metP (B.getD r []) i j x y then 1 else 0) - (if metP (B.getD r []) i j y x then 1 else 0) else 0
/-- All margins. -/
def mmF (n : Nat) (B : List (List Nat)) (x y : Nat) : Int := if x < n ∧ y < n then mg B x y else 0

theorem mg_bd (B : List (List Nat)) (x y : Nat) : -(B.length : Int) ≤ mg B x y ∧ mg B x y ≤ B.length := by
  have h1 := List.countP_le_length (p := fun b => bf b x y) (l := B)
  have h2 := List.countP_le_length (p := fun b => bf b y x) (l := B)
  unfold mg
  omega
theorem stM_bd {n : Nat} {B : List (List Nat)} {r i j x y : Nat} (hr : r ≤ B.length) : -(r + 1 : Int) ≤ stM n B r i j x y ∧ stM n B r i j x y ≤ r + 1 := by
  have h := mg_bd (B.take r) x y
  rw [List.length_take, Nat.min_eq_left hr] at h
  unfold stM
  split
  · split <;> split <;> omega
  · omega
theorem mmF_bd (n : Nat) (B : List (List Nat)) (x y : Nat) : -(B.length : Int) ≤ mmF n B x y ∧ mmF n B x y ≤ B.length := by
  have h := mg_bd B x y
  unfold mmF
  split
  · exact h
  · omega
theorem mg_nil (x y : Nat) : mg [] x y = 0 := rfl
theorem stM_start (n : Nat) (B : List (List Nat)) : ∀ x y, stM n B 0 0 0 x y = 0 := by
  intro x y
  unfold stM metP
  simp [mg_nil]
theorem stM_inner0 (n : Nat) (B : List (List Nat)) (r i : Nat) : stM n B r i 0 = stM n B r i (i + 1) := by
  funext x y
  have h : ∀ x y, metP (B.getD r []) i 0 x y = metP (B.getD r []) i (i + 1) x y := fun x y => by
    unfold metP
    rw [decide_eq_decide]
    constructor
    · rintro ⟨a, b⟩; exact ⟨a, by omega⟩
    · rintro ⟨a, b⟩; exact ⟨a, by omega⟩
  unfold stM
  rw [h x y, h y x]
section
variable {n : Nat} {B : List (List Nat)} {r : Nat}
theorem stM_next (hb : Odr n (B.getD r [])) (i : Nat) : stM n B r i n = stM n B r (i + 1) 0 := by
  funext x y
  by_cases hxy : x < n ∧ y < n
  · have h : ∀ x y, x < n → y < n → metP (B.getD r []) i n x y = metP (B.getD r []) (i + 1) 0 x y := fun x y hx hy => by
      have := hb.idx_lt hx
      have := hb.idx_lt hy
      unfold metP
      rw [decide_eq_decide]
      constructor
      · rintro ⟨a, b⟩; exact ⟨a, by omega⟩
      · rintro ⟨a, b⟩; exact ⟨a, by omega⟩
    unfold stM
    rw [h x y hxy.1 hxy.2, h y x hxy.2 hxy.1]
  · unfold stM; rw [if_neg hxy, if_neg hxy]
theorem stM_over (hr : r < B.length) (hb : Odr n (B.getD r [])) : stM n B r n 0 = stM n B (r + 1) 0 0 := by
  funext x y
  by_cases hxy : x < n ∧ y < n
  · have h : ∀ x y, x < n → y < n → metP (B.getD r []) n 0 x y = bf (B.getD r []) x y := fun x y hx hy => by
      have := hb.idx_lt hx
      unfold metP bf
      rw [decide_eq_decide]
      constructor
      · rintro ⟨a, b⟩; exact a
      · intro a; exact ⟨a, .inl this⟩
    have h0 : ∀ b x y, metP b 0 0 x y = false := fun b x y => by unfold metP; simp
    unfold stM
    rw [if_pos hxy, if_pos hxy, h x y hxy.1 hxy.2, h y x hxy.2 hxy.1, h0, h0]
    have hget : B[r]? = some (B.getD r []) := by rw [List.getD_eq_getElem?_getD, List.getElem?_eq_getElem hr]; rfl
    have ht : B.take (r + 1) = B.take r ++ [B.getD r []] := by rw [List.take_add_one, hget]; rfl
    rw [ht]
    unfold mg
    rw [List.countP_append, List.countP_append, List.countP_singleton, List.countP_singleton]
    cases bf (B.getD r []) x y <;> cases bf (B.getD r []) y x <;> simp <;> omega
  · unfold stM; rw [if_neg hxy, if_neg hxy]
theorem stM_end : stM n B B.length 0 0 = mmF n B := by
  funext x y
  unfold stM mmF metP
  rw [List.take_length]
  simp
theorem stM_in {i j x y : Nat} (hx : x < n) (hy : y < n) : stM n B r i j x y = mg (B.take r) x y + (if metP (B.getD r []) i j x y then 1 else 0) - (if metP (B.getD r []) i j y x then 1 else 0) := by unfold stM; rw [if_pos ⟨hx, hy⟩]
theorem stM_step (hb : Odr n (B.getD r [])) {i j : Nat} (hij : i < j) (hj : j < n) :
    (B.getD r []).getD i 0 ≠ (B.getD r []).getD j 0 ∧ (B.getD r []).getD i 0 < n ∧ (B.getD r []).getD j 0 < n ∧
    stM n B r i (j + 1) = Mid.upd (Mid.upd (stM n B r i j) ((B.getD r []).getD i 0) ((B.getD r []).getD j 0) (stM n B r i j ((B.getD r []).getD i 0) ((B.getD r []).getD j 0) + 1)) ((B.getD r []).getD j 0) ((B.getD r []).getD i 0)
      (stM n B r i j ((B.getD r []).getD j 0) ((B.getD r []).getD i 0) - 1) := by
  obtain ⟨b, hbe⟩ : ∃ b, b = B.getD r [] := ⟨_, rfl⟩
  rw [← hbe] at hb ⊢
  have hi : i < n := by omega
  obtain ⟨p, hp⟩ : ∃ p, p = b.getD i 0 := ⟨_, rfl⟩
  obtain ⟨q, hq⟩ : ∃ q, q = b.getD j 0 := ⟨_, rfl⟩
  have hpi : b.idxOf p = i := by rw [hp]; exact hb.idx_get hi
  have hqi : b.idxOf q = j := by rw [hq]; exact hb.idx_get hj
  have hpn : p < n := by rw [hp]; exact hb.get_lt hi
  have hqn : q < n := by rw [hq]; exact hb.get_lt hj
  rw [← hp, ← hq]
  have hne : p ≠ q := by rintro rfl; omega
  refine ⟨hne, hpn, hqn, ?_⟩
  have key : ∀ x y, x < n → y < n → (metP b i (j + 1) x y = (metP b i j x y || (decide (x = p) && decide (y = q)))) := fun x y hx hy => by
    unfold metP
    rw [Bool.eq_iff_iff]
    simp only [decide_eq_true_eq, Bool.or_eq_true, Bool.and_eq_true]
    constructor
    · rintro ⟨a, c⟩
      by_cases e : b.idxOf x = i ∧ b.idxOf y = j
      · exact .inr ⟨hb.idx_inj hx hpn (by omega), hb.idx_inj hy hqn (by omega)⟩
      · left; exact ⟨a, by omega⟩
    · rintro (⟨a, c⟩ | ⟨rfl, rfl⟩)
      · exact ⟨a, by omega⟩
      · exact ⟨by omega, by omega⟩
  have z1 : metP b i j p q = false := by unfold metP; rw [decide_eq_false_iff_not]; omega
  have z2 : metP b i j q p = false := by unfold metP; rw [decide_eq_false_iff_not]; omega
  funext x y
  by_cases hxy : x < n ∧ y < n
  · obtain ⟨hx, hy⟩ := hxy
    by_cases e1 : x = q ∧ y = p
    · obtain ⟨rfl, rfl⟩ := e1
      rw [Mid.upd_same, stM_in hx hy, stM_in hx hy, ← hbe, key x y hx hy, key y x hy hx, z1, z2]
      have d1 : decide (x = y) = false := decide_eq_false (fun e => hne e.symm)
      simp [d1]
    · rw [Mid.upd_other e1]
      by_cases e2 : x = p ∧ y = q
      · obtain ⟨rfl, rfl⟩ := e2
        rw [Mid.upd_same, stM_in hx hy, stM_in hx hy, ← hbe, key x y hx hy, key y x hy hx, z1, z2]
        have d2 : decide (y = x) = false := decide_eq_false (fun e => hne e.symm)
        simp [d2]
      · rw [Mid.upd_other e2, stM_in hx hy, stM_in hx hy, ← hbe, key x y hx hy, key y x hy hx]
        have f1 : (decide (x = p) && decide (y = q)) = false := by rw [Bool.and_eq_false_iff, decide_eq_false_iff_not, decide_eq_false_iff_not]; omega
        have f2 : (decide (y = p) && decide (x = q)) = false := by rw [Bool.and_eq_false_iff, decide_eq_false_iff_not, decide_eq_false_iff_not]; omega
        rw [f1, f2, Bool.or_false, Bool.or_false]
  · have h1 : ¬ (x = q ∧ y = p) := by rintro ⟨rfl, rfl⟩; exact hxy ⟨hqn, hpn⟩
    have h2 : ¬ (x = p ∧ y = q) := by rintro ⟨rfl, rfl⟩; exact hxy ⟨hpn, hqn⟩
    rw [Mid.upd_other h1, Mid.upd_other h2]
    unfold stM; rw [if_neg hxy, if_neg hxy]
end

/-- The cells of a matrix of five times five. -/
def mcells (M : Nat → Nat → Int) : Array Value := ((List.range 25).map fun i => Value.int .i64 (M (i / 5) (i % 5))).toArray
theorem mcells_get (M : Nat → Nat → Int) {x y : Nat} (hx : x < 5) (hy : y < 5) : (mcells M)[x * 5 + y]? = some (.int .i64 (M x y)) := by
  unfold mcells
  rw [List.getElem?_toArray, List.getElem?_map, List.getElem?_range (by omega)]
  have h1 : (x * 5 + y) / 5 = x := by omega
  have h2 : (x * 5 + y) % 5 = y := by omega
  simp [h1, h2]
theorem mcells_size (M : Nat → Nat → Int) : (mcells M).size = 25 := by simp [mcells]
theorem mcells_set (M : Nat → Nat → Int) {x y : Nat} (hx : x < 5) (hy : y < 5) (v : Int) : (mcells M).setIfInBounds (x * 5 + y) (.int .i64 v) = mcells (Mid.upd M x y v) := by
  apply Array.ext_getElem?
  intro k
  rw [Array.getElem?_setIfInBounds]
  by_cases hk : k < 25
  · have hk2 : ∀ N : Nat → Nat → Int, (mcells N)[k]? = some (.int .i64 (N (k / 5) (k % 5))) := fun N => by
      have := mcells_get N (x := k / 5) (y := k % 5) (by omega) (by omega)
      rwa [show k / 5 * 5 + k % 5 = k by omega] at this
    rw [hk2, hk2]
    by_cases e : x * 5 + y = k
    · rw [if_pos e, if_pos (by rw [mcells_size]; omega)]
      have h1 : k / 5 = x := by omega
      have h2 : k % 5 = y := by omega
      rw [h1, h2, Mid.upd_same]
    · rw [if_neg e, Mid.upd_other (by rintro ⟨h1, h2⟩; omega)]
  · rw [Array.getElem?_eq_none (by rw [mcells_size]; omega), if_neg (by omega), Array.getElem?_eq_none (by rw [mcells_size]; omega)]
theorem mcells_congr {M N : Nat → Nat → Int} (h : ∀ x y, M x y = N x y) : mcells M = mcells N := by
  have : M = N := by funext x y; exact h x y
  rw [this]

/- Contract: margins of package vote. -/

theorem minfo (M : Nat → Nat → Int) : (Try.prog.info? 49).map (·.size) = some (mcells M).size := by
  rw [mcells_size]; kernel_rfl
theorem mcells_one (M : Nat → Nat → Int) : (mcells M).all (·.oneCell') = true := by
  rw [Array.all_eq_true_iff_forall_mem]
  intro u hu
  unfold mcells at hu
  rw [List.mem_toArray, List.mem_map] at hu
  obtain ⟨i, _, rfl⟩ := hu
  rfl
theorem Blk.setRow {w : World} {g : Nat} {t : TypeId} {cs : Array Value} (h : Blk w g t cs) (cs' : Array Value) : Blk (w.setRow g cs') g t cs' := by
  unfold Blk at h ⊢
  unfold World.setRow
  simp [Array.getElem?_modify, h]
theorem below_setRow {w w' : World} {b g : Nat} (h : Below b w w') (hg : b ≤ g) (cs : Array Value) : Below b w (w'.setRow g cs) := by
  refine h.trans ⟨rfl, rfl, rfl, ?_, fun k hk => ?_⟩
  · unfold World.setRow; simp
  · unfold World.setRow; simp [Array.getElem?_modify]; intro e; omega

set_option maxRecDepth 100000 in
set_option maxHeartbeats 4000000 in
theorem vmargins_any (A : Option Addr) (n cap k : Nat) (V : List (List Int)) (B : List (List Nat)) (w : World) (hB : Blts V k B) (hl : V.length = n) (hV : Mat w A V) :
    Calls Try.prog 22 #[.slice A n cap] w fun e w' => e = .returned (.agg (mcells (mmF k B))) ∧ Below w.heap.size w w' := by
  obtain ⟨w1, hw1⟩ : ∃ w1, w1 = w.alloc (.cells (mcells fun _ _ => 0) 49) := ⟨_, rfl⟩
  obtain ⟨w2, hw2⟩ : ∃ w2, w2 = w1.alloc (.cells (mcells fun _ _ => 0) 49) := ⟨_, rfl⟩
  have hz1 : w1.heap.size = w.heap.size + 1 := by rw [hw1]; simp
  have hB1 : Blk w2 w.heap.size 49 (mcells fun _ _ => 0) := by rw [hw2, hw1]; exact (Blk.new _ _ _ rfl).alloc _
  have hB2 : Blk w2 w1.heap.size 49 (mcells fun _ _ => 0) := by rw [hw2]; exact Blk.new _ _ _ rfl
  have hb2 : Below w.heap.size w w2 := by rw [hw2]; exact ((by rw [hw1]; exact (Below.refl _ _).alloc (Nat.le_refl _) _ : Below w.heap.size w w1)).alloc (by omega) _
  have hn9 : 1 ≤ n ∧ n ≤ 9 := by have := hB.hB; have := hB.len; omega
  have hk5 := hB.hn
  have hbl : B.length = n := by have := hB.len; omega
  have H := Lib.hid (And.intro hB (And.intro hV (And.intro hB1 (And.intro hB2 (And.intro hb2 hbl)))))
  clear hB hV hl hB1 hB2 hb2 hbl
  go_enter Try.func22, Try.ntmps22
  go_upto_region 3 with fail
  generalize hW : World.alloc (World.alloc w _) _ = W2
  obtain rfl : W2 = w2 := by rw [← hW, hw2, hw1]; rfl
  clear hW
  obtain ⟨gM, hgM⟩ : ∃ gM, gM = w1.heap.size := ⟨_, rfl⟩
  have hgw : gM = w.heap.size + 1 := by omega
  rw [← hgw]
  rw [← hgM] at H
  have HG := Lib.hid hgw
  clear hw1 hw2 hgw hgM hz1
  go_loopw [12] (fun iv wr => ∃ r : Nat, r ≤ n ∧ iv = .int .i64 r ∧ Blk wr gM 49 (mcells (stM k B r 0 0)) ∧ Blk wr w.heap.size 49 (mcells fun _ _ => 0) ∧ Below w.heap.size w wr) (fun iv _ => n - (intOf iv).toNat)
  case atStart => exact ⟨0, Nat.zero_le _, rfl, by rw [mcells_congr (stM_start k B)]; exact H.out.2.2.2.1, H.out.2.2.1, H.out.2.2.2.2.1⟩
  case round =>
    obtain ⟨r, hr, rfl, hM, hR, hb⟩ := hrel
    obtain ⟨wo, rfl⟩ : ∃ wo : World, wo = wr := ⟨_, rfl⟩
    have HR := Lib.hid (And.intro hM (And.intro hR hb))
    clear hM hR hb
    by_cases hlt : r < n
    · have hrB : r < B.length := by have := H.out.2.2.2.2.2; omega
      obtain ⟨b, hbe⟩ : ∃ b, b = B.getD r [] := ⟨_, rfl⟩
      have hodr := H.out.1.at_ hrB
      obtain ⟨ad, A', c, rfl, hcell, hrc, hc2, hI⟩ := H.out.2.1 r _ (H.out.1.get hrB)
      have hst : ∀ i j, i < j → j < k → _ := fun i j hij hj => stM_step (B := B) (r := r) hodr hij hj
      rw [← hbe] at hodr hcell hrc hI hst
      have hlb : (intL b).length = k := by rw [intL_length, hodr.len]
      rw [hlb] at hcell hrc
      have hcell2 := (HR.out.2.2.cell (lt_of_cell hcell)).trans hcell
      obtain ⟨ab, rfl, hab, hcs⟩ := hI.some_ (by omega)
      have hcs' : ∀ i, i < k → ∀ wx, Below w.heap.size w wx → wx.cell? (ab.add i) = some (.int .i64 ((b.getD i 0 : Nat) : Int)) := fun i hi wx hbx => by
        have h1 : (intL b)[i]? = some ((b.getD i 0 : Nat) : Int) := intL_some (by rw [List.getD_eq_getElem?_getD, List.getElem?_eq_getElem (by rw [hodr.len]; exact hi)]; rfl)
        have h2 := hcs i _ h1
        exact (hbx.cell (lt_of_cell h2)).trans h2
      have HI := Lib.hid (And.intro hodr (And.intro hbe (And.intro hcs' hst)))
      have l1 : (r : Int) < (n : Int) := by omega
      clear hodr hbe hcell hI hlb hcs hcs' hst
      go_upto_region 6 with fail
      go_loopw [18] (fun iv wx => ∃ i : Nat, i ≤ k ∧ iv = .int .i64 i ∧ Blk wx gM 49 (mcells (stM k B r i 0)) ∧ Blk wx w.heap.size 49 (mcells fun _ _ => 0) ∧ Below w.heap.size w wx) (fun iv _ => k - (intOf iv).toNat)
      case atStart => exact ⟨0, Nat.zero_le _, rfl, HR.out.1, HR.out.2.1, HR.out.2.2⟩
      case round =>
        obtain ⟨i, hi, rfl, hM, hR, hb⟩ := hrel
        obtain ⟨wp, rfl⟩ : ∃ wp : World, wp = wr := ⟨_, rfl⟩
        have HK := Lib.hid (And.intro hM (And.intro hR hb))
        clear hM hR hb
        by_cases hlk : i < k
        · obtain ⟨x, hx⟩ : ∃ x, x = b.getD i 0 := ⟨_, rfl⟩
          have c1 := HI.out.2.2.1 i hlk wp HK.out.2.2
          rw [← hx] at c1
          have HX := Lib.hid hx
          have l2 : (i : Int) < (k : Int) := by omega
          have l3 : i + 1 ≤ k := by omega
          clear hx
          by_cases hce : c = i + 1
          · have hke : k = i + 1 := by omega
            have HKE := Lib.hid hke
            go_upto_region 9 with fail
            go_loopw [28] (fun iv wx => iv = .int .i64 0 ∧ wx = wp) (fun _ _ => 0)
            case atStart => exact ⟨rfl, rfl⟩
            case round =>
              obtain ⟨rfl, rfl⟩ := hrel
              go_wp2_with fail
              go_roundw
              case rel =>
                refine ⟨i + 1, by omega, by go_num, ?_, HK.out.2.1, HK.out.2.2⟩
                have h := HK.out.1
                rw [stM_inner0, ← HKE.out, stM_next (by rw [← HI.out.2.1]; exact HI.out.1)] at h
                exact h
              case measure => simp [intOf]; omega
          · have hcl : i + 1 < c := by omega
            go_upto_region 9 with fail
            go_loopw [28] (fun iv wx => ∃ t : Nat, t ≤ k - (i + 1) ∧ iv = .int .i64 t ∧ Blk wx gM 49 (mcells (stM k B r i (i + 1 + t))) ∧ Blk wx w.heap.size 49 (mcells fun _ _ => 0) ∧ Below w.heap.size w wx) (fun iv _ => k - (i + 1) - (intOf iv).toNat)
            case atStart => exact ⟨0, Nat.zero_le _, rfl, by rw [Nat.add_zero, ← stM_inner0]; exact HK.out.1, HK.out.2.1, HK.out.2.2⟩
            case round =>
              obtain ⟨t, ht, rfl, hM, hR, hb⟩ := hrel
              have HT := Lib.hid (And.intro hM (And.intro hR hb))
              clear hM hR hb
              by_cases hlu : t < k - (i + 1)
              · obtain ⟨y, hy⟩ : ∃ y, y = b.getD (i + 1 + t) 0 := ⟨_, rfl⟩
                have hcy := HI.out.2.2.1 (i + 1 + t) (by omega) wr HT.out.2.2
                rw [← hy] at hcy
                have c2 : wr.cell? { block := ab.block, off := ab.off + (i + 1) + t } = some (.int .i64 (y : Int)) := by
                  have e : ab.add (i + 1 + t) = { block := ab.block, off := ab.off + (i + 1) + t } := by
                    have h0 : ¬ (i + 1 + t = 0) := by omega
                    unfold Addr.add
                    rw [if_neg h0, show ab.off + (i + 1) + t = ab.off + (i + 1 + t) by omega]
                  rwa [e] at hcy
                obtain ⟨hne, hxn, hyn, hstep⟩ := HI.out.2.2.2 i (i + 1 + t) (by omega) (by omega)
                rw [← HX.out] at hne hxn hstep
                rw [← hy] at hne hyn hstep
                have l4 : (t : Int) < ((k - (i + 1) : Nat) : Int) := by omega
                have l5 : (x : Int) < 5 := by omega
                have l6 : (y : Int) < 5 := by omega
                obtain ⟨m1, f1⟩ := And.intro (HT.out.1.cell (x * 5 + y)) (HT.out.1.frozen (x * 5 + y))
                rw [mcells_get _ (by omega) (by omega)] at m1
                have HY := Lib.hid (And.intro hy (And.intro hne hstep))
                obtain ⟨z, hz⟩ : ∃ z, z = stM k B r i (i + 1 + t) x y := ⟨_, rfl⟩
                have hzb := stM_bd (n := k) (B := B) (r := r) (i := i) (j := i + 1 + t) (x := x) (y := y) (by omega)
                rw [← hz] at m1 hzb
                have en : IntKind.i64.wrap (z + 1) = z + 1 := IntWalk.i64_in _ (by omega)
                have hB1 := HT.out.1.set_ (x * 5 + y) (.int .i64 (z + 1))
                rw [mcells_set _ (by omega) (by omega)] at hB1
                have HS1 := Lib.hid (And.intro hB1 (And.intro hz hzb))
                clear hy hcy hstep hne hz hB1 hzb
                go_upto_region 11 with fail
                go_region
                obtain ⟨w4, hw4⟩ : ∃ w4, w4 = (wr.setCell ⟨gM, x * 5 + y, none⟩ (.int .i64 (z + 1))).drew := ⟨_, rfl⟩
                have hB4 : Blk w4 gM 49 (mcells (Mid.upd (stM k B r i (i + 1 + t)) x y (z + 1))) := by rw [hw4]; exact HS1.out.1
                have hR4 : Blk w4 w.heap.size 49 (mcells fun _ _ => 0) := by rw [hw4]; exact HT.out.2.1.far (by have := HG.out; show w.heap.size ≠ gM; omega) _
                have hb4 : Below w.heap.size w w4 := by rw [hw4]; exact (HT.out.2.2.setCell (p := ⟨gM, x * 5 + y, none⟩) (by have := HG.out; show w.heap.size ≤ gM; omega) _).drew
                rw [← hw4]
                clear hw4 m1 f1 en
                obtain ⟨m1, f1⟩ := And.intro (hB4.cell (y * 5 + x)) (hB4.frozen (y * 5 + x))
                rw [mcells_get _ (by omega) (by omega), Mid.upd_other (by rintro ⟨h1, h2⟩; exact HY.out.2.1 h2)] at m1
                obtain ⟨z2, hz2⟩ : ∃ z2, z2 = stM k B r i (i + 1 + t) y x := ⟨_, rfl⟩
                have hzb := stM_bd (n := k) (B := B) (r := r) (i := i) (j := i + 1 + t) (x := y) (y := x) (by omega)
                rw [← hz2] at m1 hzb
                have en : IntKind.i64.wrap (z2 - 1) = z2 - 1 := IntWalk.i64_in _ (by omega)
                have hB5 := hB4.set_ (y * 5 + x) (.int .i64 (z2 - 1))
                rw [mcells_set _ (by omega) (by omega), HS1.out.2.1, hz2, ← HY.out.2.2] at hB5
                have hB5' : Blk (w4.setCell ⟨gM, y * 5 + x, none⟩ (.int .i64 (z2 - 1))).drew gM 49 (mcells (stM k B r i (i + 1 + (t + 1)))) := by rw [hz2]; exact hB5
                have hR5 : Blk (w4.setCell ⟨gM, y * 5 + x, none⟩ (.int .i64 (z2 - 1))).drew w.heap.size 49 (mcells fun _ _ => 0) := hR4.far (by have := HG.out; show w.heap.size ≠ gM; omega) _
                have hb5 : Below w.heap.size w (w4.setCell ⟨gM, y * 5 + x, none⟩ (.int .i64 (z2 - 1))).drew := (hb4.setCell (p := ⟨gM, y * 5 + x, none⟩) (by have := HG.out; show w.heap.size ≤ gM; omega) _).drew
                have H5 := Lib.hid (And.intro hB5' (And.intro hR5 hb5))
                clear hB4 hR4 hb4 hz2 hB5 hB5' hR5 hb5 hzb
                go_upto_region 12 with fail
                go_region
                obtain ⟨w6, hw6⟩ : ∃ w6, w6 = (w4.setCell ⟨gM, y * 5 + x, none⟩ (.int .i64 (z2 - 1))).drew := ⟨_, rfl⟩
                rw [← hw6] at H5 ⊢
                clear hw6
                go_wp2_with fail
                go_roundw
                case rel => exact ⟨t + 1, by omega, by go_num, H5.out.1, H5.out.2.1, H5.out.2.2⟩
                case measure => simp [intOf]; omega
              · obtain rfl : t = k - (i + 1) := by omega
                have l4 : ¬ ((k - (i + 1) : Nat) : Int) < ((k - (i + 1) : Nat) : Int) := by omega
                go_wp2_with fail
                go_roundw
                case rel =>
                  refine ⟨i + 1, by omega, by go_num, ?_, HT.out.2.1, HT.out.2.2⟩
                  have h := HT.out.1
                  rw [show i + 1 + (k - (i + 1)) = k by omega, stM_next (by rw [← HI.out.2.1]; exact HI.out.1)] at h
                  exact h
                case measure => simp [intOf]; omega
        · obtain rfl : i = k := by omega
          have l2 : ¬ (i : Int) < (i : Int) := by omega
          go_wp2_with fail
          go_roundw
          case rel =>
            refine ⟨r + 1, by omega, by go_num, ?_, HK.out.2.1, HK.out.2.2⟩
            have h := HK.out.1
            rw [stM_over hrB (by rw [← HI.out.2.1]; exact HI.out.1)] at h
            exact h
          case measure => simp [intOf]; omega
    · obtain rfl : r = n := by omega
      have l1 : ¬ (r : Int) < (r : Int) := by omega
      have hfin : Blk wo gM 49 (mcells (mmF k B)) := by
        have h := HR.out.1
        have e : r = B.length := H.out.2.2.2.2.2.symm
        rw [e, stM_end] at h
        exact h
      have hsz : (mcells (mmF k B)).size = 25 := mcells_size _
      have hres : Blk (wo.setRow w.heap.size (mcells (mmF k B))) w.heap.size 49 (mcells (mmF k B)) := HR.out.2.1.setRow _
      have hbres : Below w.heap.size w (wo.setRow w.heap.size (mcells (mmF k B))) := below_setRow HR.out.2.2 (Nat.le_refl _) _
      have HX := Lib.hid (And.intro hfin (And.intro hres hbres))
      clear hfin hres hbres
      go_wp2_with (first
        | (refine wpList_load_row rfl 49 _ rfl gM rfl 49 (mcells (mmF k B)) (0, 0) _ HX.out.1 Try.underlying49 rfl (minfo _) ?_)
        | (refine wpList_store_row rfl 49 _ _ rfl w.heap.size (mcells (mmF k B)) rfl rfl 49 _ HR.out.2.1 (minfo _) (by rw [mcells_size, mcells_size]) (mcells_one _) ?_))
      refine bodyPost_ret (results_cell_row rfl _ _ w.heap.size 49 (mcells (mmF k B)) (0, 0) _ rfl HX.out.2.1 Try.underlying49 rfl (minfo _)) rfl ?_
      exact ⟨rfl, HX.out.2.2⟩

/- Contract: widths of package vote. -/

theorem wd_on {k i j : Nat} {M : Nat → Nat → Int} (h : i ≠ j ∧ i ≠ k ∧ j ≠ k) : Mid.wd1 k i j M = Mid.upd M i j (max (M i j) (min (M i k) (M k j))) := by unfold Mid.wd1; rw [if_pos h]
theorem wd_off {k i j : Nat} {M : Nat → Nat → Int} (h : ¬ (i ≠ j ∧ i ≠ k ∧ j ≠ k)) : Mid.wd1 k i j M = M := by unfold Mid.wd1; rw [if_neg h]

set_option maxRecDepth 100000 in
set_option maxHeartbeats 4000000 in
theorem vwidths_any (A : Option Addr) (n cap k : Nat) (V : List (List Int)) (B : List (List Nat)) (w : World) (hB : Blts V k B) (hl : V.length = n) (hV : Mat w A V) :
    Calls Try.prog 61 #[.slice A n cap] w fun e w' => e = .returned (.agg (mcells (Mid.wdK k (mmF k B) k))) ∧ Below w.heap.size w w' := by
  obtain ⟨w1, hw1⟩ : ∃ w1, w1 = w.alloc (.cells (mcells fun _ _ => 0) 49) := ⟨_, rfl⟩
  have hz1 : w1.heap.size = w.heap.size + 1 := by rw [hw1]; simp
  have hB1 : Blk w1 w.heap.size 49 (mcells fun _ _ => 0) := by rw [hw1]; exact Blk.new _ _ _ rfl
  have hb1 : Below w.heap.size w w1 := by rw [hw1]; exact (Below.refl _ _).alloc (Nat.le_refl _) _
  have hn9 : 1 ≤ n ∧ n ≤ 9 := by have := hB.hB; have := hB.len; omega
  have hk5 := hB.hn
  have hbl : B.length = n := by have := hB.len; omega
  have hbd : ∀ x y, -9 ≤ mmF k B x y ∧ mmF k B x y ≤ 9 := fun x y => by have := mmF_bd k B x y; omega
  have HB := Lib.hid (And.intro hB (And.intro hl (And.intro hB1 (And.intro hb1 (And.intro hV hz1)))))
  have HM0 := Lib.hid hbd
  clear hB hl hB1 hb1 hbl hV hz1 hbd
  go_enter Try.func61, Try.ntmps61
  go_upto_region 1 with fail
  generalize hW : World.alloc w _ = W1
  obtain rfl : W1 = w1 := by rw [← hW, hw1]; rfl
  clear hW hw1
  go_wp2_with fail
  refine (vmargins_any A n cap k V B _ HB.out.1 HB.out.2.1 (HB.out.2.2.2.2.1.below HB.out.2.2.2.1)).mono ?_
  rintro e w2 ⟨rfl, hb2⟩
  have hz2 := hb2.size
  have H2 := Lib.hid (And.intro (HB.out.2.2.1.below hb2 HB.out.2.2.1.lt) (And.intro (HB.out.2.2.2.1.trans (hb2.mono (by have := HB.out.2.2.2.2.2; omega))) (And.intro hz2 HB.out.2.2.2.2.2)))
  clear hb2 hz2
  go_wp2_with fail
  refine (vnames_any A n cap k V _ HB.out.2.1 hn9.1 (by omega) HB.out.1.row0.symm (by omega) (HB.out.2.2.2.2.1.below H2.out.2.1)).mono ?_
  rintro e w3 ⟨rfl, rfl⟩
  obtain ⟨gM, hgM⟩ : ∃ gM, gM = w2.heap.size := ⟨_, rfl⟩
  have hgw : w.heap.size < gM := by have := H2.out.2.2; omega
  obtain ⟨W3, hW3⟩ : ∃ W3, W3 = (w2.alloc (.cells (mcells fun _ _ => 0) 49)).setRow gM (mcells (mmF k B)) := ⟨_, rfl⟩
  have hN0 : Blk (w2.alloc (.cells (mcells fun _ _ => 0) 49)) gM 49 (mcells fun _ _ => 0) := Blk.new _ _ _ hgM
  have hM3 : Blk W3 gM 49 (mcells (mmF k B)) := by rw [hW3]; exact hN0.setRow _
  have hR3 : Blk W3 w.heap.size 49 (mcells fun _ _ => 0) := by rw [hW3]; exact (H2.out.1.alloc _).below (below_setRow (Below.refl gM _) (Nat.le_refl _) _) hgw
  have hb3 : Below w.heap.size w W3 := by rw [hW3]; exact below_setRow (H2.out.2.1.alloc (by omega) _) (by omega) _
  have H3 := Lib.hid (And.intro hM3 (And.intro hR3 hb3))
  have HG := Lib.hid hgw
  have HN0 := Lib.hid hN0
  have HGM := Lib.hid hgM
  have HW3 := Lib.hid hW3
  clear hM3 hR3 hb3 hgw hN0 hgM hW3
  go_upto_region 2 with (refine wpList_store_row rfl 49 _ _ rfl gM (mcells (mmF k B)) (by rw [HGM.out]; rfl) rfl 49 _ HN0.out (minfo _) (by rw [mcells_size, mcells_size]) (mcells_one _) ?_)
  generalize hW : World.setRow _ _ _ = X3
  obtain rfl : X3 = W3 := by rw [← hW, HW3.out]; rfl
  clear hW HW3
  rw [← HGM.out]
  go_upto_region 3 with fail
  go_loopw [13] (fun av wx => ∃ a : Nat, a ≤ k ∧ av = .int .i64 a ∧ Blk wx gM 49 (mcells (Mid.wdK k (mmF k B) a)) ∧ Blk wx w.heap.size 49 (mcells fun _ _ => 0) ∧ Below w.heap.size w wx) (fun av _ => k - (intOf av).toNat)
  case atStart => exact ⟨0, Nat.zero_le _, rfl, H3.out.1, H3.out.2.1, H3.out.2.2⟩
  case round =>
    obtain ⟨a, ha, rfl, hM, hR, hb⟩ := hrel
    obtain ⟨wo, rfl⟩ : ∃ wo : World, wo = wr := ⟨_, rfl⟩
    have HA := Lib.hid (And.intro hM (And.intro hR hb))
    clear hM hR hb
    by_cases hlt : a < k
    · have l1 : (a : Int) < (k : Int) := by omega
      go_upto_region 6 with fail
      go_loopw [17] (fun iv wx => ∃ i : Nat, i ≤ k ∧ iv = .int .i64 i ∧ Blk wx gM 49 (mcells (Mid.wdI k a (Mid.wdK k (mmF k B) a) i)) ∧ Blk wx w.heap.size 49 (mcells fun _ _ => 0) ∧ Below w.heap.size w wx) (fun iv _ => k - (intOf iv).toNat)
      case atStart => exact ⟨0, Nat.zero_le _, rfl, HA.out.1, HA.out.2.1, HA.out.2.2⟩
      case round =>
        obtain ⟨i, hi, rfl, hM, hR, hb⟩ := hrel
        obtain ⟨wp, rfl⟩ : ∃ wp : World, wp = wr := ⟨_, rfl⟩
        have HI := Lib.hid (And.intro hM (And.intro hR hb))
        clear hM hR hb
        by_cases hli : i < k
        · have l2 : (i : Int) < (k : Int) := by omega
          go_upto_region 9 with fail
          go_loopw [21] (fun jv wx => ∃ j : Nat, j ≤ k ∧ jv = .int .i64 j ∧ Blk wx gM 49 (mcells (Mid.wdJ a i (Mid.wdI k a (Mid.wdK k (mmF k B) a) i) j)) ∧ Blk wx w.heap.size 49 (mcells fun _ _ => 0) ∧ Below w.heap.size w wx) (fun jv _ => k - (intOf jv).toNat)
          case atStart => exact ⟨0, Nat.zero_le _, rfl, HI.out.1, HI.out.2.1, HI.out.2.2⟩
          case round =>
            obtain ⟨j, hj, rfl, hM, hR, hb⟩ := hrel
            by_cases hlj : j < k
            · have l3 : (j : Int) < (k : Int) := by omega
              have hbM : ∀ x y, -9 ≤ Mid.wdJ a i (Mid.wdI k a (Mid.wdK k (mmF k B) a) i) j x y ∧ Mid.wdJ a i (Mid.wdI k a (Mid.wdK k (mmF k B) a) i) j x y ≤ 9 := Mid.wdJ_bd HM0.out (by omega) (by omega) (by omega)
              obtain ⟨M, hMe⟩ : ∃ M, M = Mid.wdJ a i (Mid.wdI k a (Mid.wdK k (mmF k B) a) i) j := ⟨_, rfl⟩
              rw [← hMe] at hM hbM
              have HM : Hid (Mid.wdJ a i (Mid.wdI k a (Mid.wdK k (mmF k B) a) i) (j + 1) = Mid.wd1 a i j M) := Lib.hid (by rw [hMe]; rfl)
              have HJ := Lib.hid (And.intro hM (And.intro hR hb))
              have m1 := hM.cell (i * 5 + j)
              have f1 := hM.frozen (i * 5 + j)
              have m2 := hM.cell (i * 5 + a)
              have m3 := hM.cell (a * 5 + j)
              rw [mcells_get _ (by omega) (by omega)] at m1 m2 m3
              clear hMe hM hR hb
              by_cases hc : i ≠ j ∧ i ≠ a ∧ j ≠ a
              · have n1 : ((i : Int) != (j : Int)) = true := by rw [bne_iff_ne]; omega
                have n2 : ((i : Int) != (a : Int)) = true := by rw [bne_iff_ne]; omega
                have n3 : ((j : Int) != (a : Int)) = true := by rw [bne_iff_ne]; omega
                have hwd := wd_on (M := M) hc
                obtain ⟨p, hp⟩ : ∃ p, p = M i j := ⟨_, rfl⟩
                obtain ⟨q, hq⟩ : ∃ q, q = M i a := ⟨_, rfl⟩
                obtain ⟨s, hs⟩ : ∃ s, s = M a j := ⟨_, rfl⟩
                rw [← hp] at m1 hwd
                rw [← hq] at m2 hwd
                rw [← hs] at m3 hwd
                have HWD := Lib.hid hwd
                clear hwd hp hq hs hc hbM
                by_cases g1 : s < q
                · by_cases g2 : p < s
                  · have g3 : max p s = s := by omega
                    have hv : max p (min q s) = s := by omega
                    have HS : Hid (Blk (wr.setCell ⟨gM, i * 5 + j, none⟩ (.int .i64 s)).drew gM 49 (mcells (Mid.wd1 a i j M)) ∧ Blk (wr.setCell ⟨gM, i * 5 + j, none⟩ (.int .i64 s)).drew w.heap.size 49 (mcells fun _ _ => 0) ∧ Below w.heap.size w (wr.setCell ⟨gM, i * 5 + j, none⟩ (.int .i64 s)).drew) := Lib.hid (by
                      refine ⟨?_, HJ.out.2.1.far (by have := HG.out; show w.heap.size ≠ gM; omega) _, (HJ.out.2.2.setCell (p := ⟨gM, i * 5 + j, none⟩) (by have := HG.out; show w.heap.size ≤ gM; omega) _).drew⟩
                      have h := HJ.out.1.set_ (i * 5 + j) (.int .i64 s)
                      rw [mcells_set _ (by omega) (by omega)] at h
                      rw [HWD.out, hv]
                      exact h)
                    clear hv
                    go_upto_region 12 with fail
                    go_region
                    obtain ⟨w6, hw6⟩ : ∃ w6, w6 = (wr.setCell ⟨gM, i * 5 + j, none⟩ (.int .i64 s)).drew := ⟨_, rfl⟩
                    rw [← hw6] at HS ⊢
                    clear hw6
                    go_wp2_with fail
                    go_roundw
                    case rel => exact ⟨j + 1, by omega, by go_num, by rw [HM.out]; exact HS.out.1, HS.out.2.1, HS.out.2.2⟩
                    case measure => simp [intOf]; omega
                  · have g3 : max p s = p := by omega
                    have hv : max p (min q s) = p := by omega
                    have HS : Hid (Blk (wr.setCell ⟨gM, i * 5 + j, none⟩ (.int .i64 p)).drew gM 49 (mcells (Mid.wd1 a i j M)) ∧ Blk (wr.setCell ⟨gM, i * 5 + j, none⟩ (.int .i64 p)).drew w.heap.size 49 (mcells fun _ _ => 0) ∧ Below w.heap.size w (wr.setCell ⟨gM, i * 5 + j, none⟩ (.int .i64 p)).drew) := Lib.hid (by
                      refine ⟨?_, HJ.out.2.1.far (by have := HG.out; show w.heap.size ≠ gM; omega) _, (HJ.out.2.2.setCell (p := ⟨gM, i * 5 + j, none⟩) (by have := HG.out; show w.heap.size ≤ gM; omega) _).drew⟩
                      have h := HJ.out.1.set_ (i * 5 + j) (.int .i64 p)
                      rw [mcells_set _ (by omega) (by omega)] at h
                      rw [HWD.out, hv]
                      exact h)
                    clear hv
                    go_upto_region 12 with fail
                    go_region
                    obtain ⟨w6, hw6⟩ : ∃ w6, w6 = (wr.setCell ⟨gM, i * 5 + j, none⟩ (.int .i64 p)).drew := ⟨_, rfl⟩
                    rw [← hw6] at HS ⊢
                    clear hw6
                    go_wp2_with fail
                    go_roundw
                    case rel => exact ⟨j + 1, by omega, by go_num, by rw [HM.out]; exact HS.out.1, HS.out.2.1, HS.out.2.2⟩
                    case measure => simp [intOf]; omega
                · by_cases g2 : p < q
                  · have g3 : max p q = q := by omega
                    have hv : max p (min q s) = q := by omega
                    have HS : Hid (Blk (wr.setCell ⟨gM, i * 5 + j, none⟩ (.int .i64 q)).drew gM 49 (mcells (Mid.wd1 a i j M)) ∧ Blk (wr.setCell ⟨gM, i * 5 + j, none⟩ (.int .i64 q)).drew w.heap.size 49 (mcells fun _ _ => 0) ∧ Below w.heap.size w (wr.setCell ⟨gM, i * 5 + j, none⟩ (.int .i64 q)).drew) := Lib.hid (by
                      refine ⟨?_, HJ.out.2.1.far (by have := HG.out; show w.heap.size ≠ gM; omega) _, (HJ.out.2.2.setCell (p := ⟨gM, i * 5 + j, none⟩) (by have := HG.out; show w.heap.size ≤ gM; omega) _).drew⟩
                      have h := HJ.out.1.set_ (i * 5 + j) (.int .i64 q)
                      rw [mcells_set _ (by omega) (by omega)] at h
                      rw [HWD.out, hv]
                      exact h)
                    clear hv
                    go_upto_region 12 with fail
                    go_region
                    obtain ⟨w6, hw6⟩ : ∃ w6, w6 = (wr.setCell ⟨gM, i * 5 + j, none⟩ (.int .i64 q)).drew := ⟨_, rfl⟩
                    rw [← hw6] at HS ⊢
                    clear hw6
                    go_wp2_with fail
                    go_roundw
                    case rel => exact ⟨j + 1, by omega, by go_num, by rw [HM.out]; exact HS.out.1, HS.out.2.1, HS.out.2.2⟩
                    case measure => simp [intOf]; omega
                  · have g3 : max p q = p := by omega
                    have hv : max p (min q s) = p := by omega
                    have HS : Hid (Blk (wr.setCell ⟨gM, i * 5 + j, none⟩ (.int .i64 p)).drew gM 49 (mcells (Mid.wd1 a i j M)) ∧ Blk (wr.setCell ⟨gM, i * 5 + j, none⟩ (.int .i64 p)).drew w.heap.size 49 (mcells fun _ _ => 0) ∧ Below w.heap.size w (wr.setCell ⟨gM, i * 5 + j, none⟩ (.int .i64 p)).drew) := Lib.hid (by
                      refine ⟨?_, HJ.out.2.1.far (by have := HG.out; show w.heap.size ≠ gM; omega) _, (HJ.out.2.2.setCell (p := ⟨gM, i * 5 + j, none⟩) (by have := HG.out; show w.heap.size ≤ gM; omega) _).drew⟩
                      have h := HJ.out.1.set_ (i * 5 + j) (.int .i64 p)
                      rw [mcells_set _ (by omega) (by omega)] at h
                      rw [HWD.out, hv]
                      exact h)
                    clear hv
                    go_upto_region 12 with fail
                    go_region
                    obtain ⟨w6, hw6⟩ : ∃ w6, w6 = (wr.setCell ⟨gM, i * 5 + j, none⟩ (.int .i64 p)).drew := ⟨_, rfl⟩
                    rw [← hw6] at HS ⊢
                    clear hw6
                    go_wp2_with fail
                    go_roundw
                    case rel => exact ⟨j + 1, by omega, by go_num, by rw [HM.out]; exact HS.out.1, HS.out.2.1, HS.out.2.2⟩
                    case measure => simp [intOf]; omega
              · have HWD : Hid (Mid.wd1 a i j M = M) := Lib.hid (wd_off hc)
                clear m1 m2 m3 f1 hbM
                by_cases c1 : i = j
                · have n1 : ((i : Int) != (j : Int)) = false := by simp [c1]
                  clear c1 hc
                  go_wp2_with fail
                  go_roundw
                  case rel => exact ⟨j + 1, by omega, by go_num, by rw [HM.out, HWD.out]; exact HJ.out.1, HJ.out.2.1, HJ.out.2.2⟩
                  case measure => simp [intOf]; omega
                · have n1 : ((i : Int) != (j : Int)) = true := by rw [bne_iff_ne]; omega
                  by_cases c2 : i = a
                  · have n2 : ((i : Int) != (a : Int)) = false := by simp [c2]
                    clear c1 c2 hc
                    go_wp2_with fail
                    go_roundw
                    case rel => exact ⟨j + 1, by omega, by go_num, by rw [HM.out, HWD.out]; exact HJ.out.1, HJ.out.2.1, HJ.out.2.2⟩
                    case measure => simp [intOf]; omega
                  · have n2 : ((i : Int) != (a : Int)) = true := by rw [bne_iff_ne]; omega
                    have n3 : ((j : Int) != (a : Int)) = false := by simp; omega
                    clear c1 c2 hc
                    go_wp2_with fail
                    go_roundw
                    case rel => exact ⟨j + 1, by omega, by go_num, by rw [HM.out, HWD.out]; exact HJ.out.1, HJ.out.2.1, HJ.out.2.2⟩
                    case measure => simp [intOf]; omega
            · obtain rfl : j = k := by omega
              have HJ := Lib.hid (And.intro hM (And.intro hR hb))
              clear hM hR hb
              have l3 : ¬ (j : Int) < (j : Int) := by omega
              go_wp2_with fail
              go_roundw
              case rel => exact ⟨i + 1, by omega, by go_num, HJ.out.1, HJ.out.2.1, HJ.out.2.2⟩
              case measure => simp [intOf]; omega
        · obtain rfl : i = k := by omega
          have l2 : ¬ (i : Int) < (i : Int) := by omega
          go_wp2_with fail
          go_roundw
          case rel => exact ⟨a + 1, by omega, by go_num, HI.out.1, HI.out.2.1, HI.out.2.2⟩
          case measure => simp [intOf]; omega
    · obtain rfl : a = k := by omega
      have l1 : ¬ (a : Int) < (a : Int) := by omega
      obtain ⟨F, hF⟩ : ∃ F, F = Mid.wdK a (mmF a B) a := ⟨_, rfl⟩
      rw [← hF] at HA
      have hfin := HA.out.1
      have hres : Blk (wo.setRow w.heap.size (mcells F)) w.heap.size 49 (mcells F) := HA.out.2.1.setRow _
      have hbres : Below w.heap.size w (wo.setRow w.heap.size (mcells F)) := below_setRow HA.out.2.2 (Nat.le_refl _) _
      have HX := Lib.hid (And.intro hfin (And.intro hres hbres))
      have HF := Lib.hid hF
      clear hfin hres hbres hF
      go_wp2_with (first
        | (refine wpList_load_row rfl 49 _ rfl gM rfl 49 (mcells F) (0, 0) _ HX.out.1 Try.underlying49 rfl (minfo _) ?_)
        | (refine wpList_store_row rfl 49 _ _ rfl w.heap.size (mcells F) rfl rfl 49 _ HA.out.2.1 (minfo _) (by rw [mcells_size, mcells_size]) (mcells_one _) ?_))
      refine bodyPost_ret (results_cell_row rfl _ _ w.heap.size 49 (mcells F) (0, 0) _ rfl HX.out.2.1 Try.underlying49 rfl (minfo _)) rfl ?_
      exact ⟨by rw [HF.out], HX.out.2.2⟩

/- Contract: paths of package vote. -/

set_option maxHeartbeats 800000 in
theorem vpaths2_any (c a Bw Ba : Nat) (M : Nat → Nat → Int) (w : World) (hc : c < 5) (ha : a < 5) (hM : Blk w Bw 49 (mcells M)) (hA : w.cell? ⟨Ba, 0, none⟩ = some (.int .i64 (a : Int))) :
    Calls Try.prog 63 #[.int .i64 (c : Int), .pointer (some ⟨Bw, 0, none⟩), .pointer (some ⟨Ba, 0, none⟩)] w fun e w' => e = .returned (.bool (decide (M a c < M c a))) ∧ ∃ m, w' = w.drewN m := by
  have m1 := hM.cell (a * 5 + c)
  have m2 := hM.cell (c * 5 + a)
  rw [mcells_get _ (by omega) (by omega)] at m1 m2
  have l1 : (c : Int) < 5 := by omega
  have l2 : (a : Int) < 5 := by omega
  clear hM
  generalize M a c = p at m1 ⊢
  generalize M c a = q at m2 ⊢
  go_enter Try.func63, Try.ntmps63
  go_wp2_with fail
  go_quiet (fail)
  go_wp2_with fail
  go_ret
  exact ⟨rfl, _, rfl⟩
theorem entF_vpaths2 : EntF 63 := entF_of Try.func63 (by kernel_rfl) (by kernel_rfl)
theorem entF_vpaths1 : EntF 62 := entF_of Try.func62 (by kernel_rfl) (by kernel_rfl)

/-- Nobody's width beats that of a. -/
def topV (k : Nat) (M : Nat → Nat → Int) (a : Nat) : Bool := !(List.range k).any fun c => decide (M a c < M c a)
theorem intL_any (b : List Nat) (p : Int → Bool) : (intL b).any p = b.any fun x => p (x : Int) := by
  unfold intL
  rw [List.any_map]; rfl
theorem mem_intL {b : List Nat} {x : Int} (h : x ∈ intL b) : ∃ y : Nat, x = (y : Int) ∧ y ∈ b := by
  obtain ⟨y, hy, rfl⟩ := List.mem_map.1 h
  exact ⟨y, rfl, hy⟩

set_option maxHeartbeats 800000 in
theorem vpaths1_any (A : Option Addr) (n cap k a Bl Bw : Nat) (V : List (List Int)) (M : Nat → Nat → Int) (w : World) (hl : V.length = n) (hn : 1 ≤ n ∧ n ≤ 9) (hk : 1 ≤ k ∧ k ≤ 5) (hr : (rowV V 0).length = k) (ha : a < 5) (hV : Mat w A V)
    (hL : w.cell? ⟨Bl, 0, none⟩ = some (.slice A n cap)) (hM : Blk w Bw 49 (mcells M)) :
    Calls Try.prog 62 #[.int .i64 (a : Int), .pointer (some ⟨Bl, 0, none⟩), .pointer (some ⟨Bw, 0, none⟩)] w fun e w' => e = .returned (.bool (topV k M a)) ∧ Below w.heap.size w w' := by
  have hbox : Blk (w.alloc (.cells #[.int .i64 (a : Int)] 3)) w.heap.size 3 #[.int .i64 (a : Int)] := Blk.new _ _ _ rfl
  obtain ⟨w1, hw1⟩ : ∃ w1, w1 = w.alloc (.cells #[.int .i64 (a : Int)] 3) := ⟨_, rfl⟩
  rw [← hw1] at hbox
  have hb1 : Below w.heap.size w w1 := by rw [hw1]; exact (Below.refl _ _).alloc (Nat.le_refl _) _
  have hz1 : w1.heap.size = w.heap.size + 1 := by rw [hw1]; simp
  have hL1 : w1.cell? ⟨Bl, 0, none⟩ = some (.slice A n cap) := (hb1.cell (lt_of_cell hL)).trans hL
  have H := Lib.hid (And.intro hl (And.intro (hV.below hb1) (And.intro (hM.below hb1 hM.lt) (And.intro hbox (And.intro hb1 (And.intro hz1 hr))))))
  clear hl hV hM hbox hb1 hL hz1 hr
  go_enter Try.func62, Try.ntmps62
  go_upto_region 1 with fail
  rw [← hw1]
  clear hw1
  go_wp2_with fail
  refine (vnames_any A n cap k V _ H.out.1 hn.1 (by omega) H.out.2.2.2.2.2.2.symm (by omega) H.out.2.1).mono ?_
  rintro e w2 ⟨rfl, rfl⟩
  go_wp2_with fail
  refine (vupto_any k _ (by omega)).mono ?_
  rintro e w3 ⟨A', c, rfl, hown, hb⟩
  have hz := H.out.2.2.2.2.2.1
  have hIn : ∀ m, Ints (w3.drewN m) A' (intL (List.range k)) := fun m => by
    have h : Ints w3 A' (intL (List.range k)) := At.of_own hown
    exact h.below (below_drewN (Below.refl _ _) m)
  have hA3 : Blk w3 w.heap.size 3 #[.int .i64 (a : Int)] := H.out.2.2.2.1.below hb (by omega)
  have hM3 : Blk w3 Bw 49 (mcells M) := H.out.2.2.1.below hb H.out.2.2.1.lt
  have HC := Lib.hid (containsF_gen 63 #[.pointer (some ⟨Bw, 0, none⟩), .pointer (some ⟨w.heap.size, 0, none⟩)] entF_vpaths2 A' k c (intL (List.range k)) w3 (fun wx => ∃ m, wx = w3.drewN m) (fun x => decide (M a x.toNat < M x.toNat a))
    (by rw [intL_length, List.length_range]) (by omega) ⟨0, rfl⟩ (by rintro w' ⟨m, rfl⟩; exact hIn m) (by
      rintro x hx w' ⟨m, rfl⟩
      obtain ⟨y, rfl, hy⟩ := mem_intL hx
      rw [List.mem_range] at hy
      refine (vpaths2_any y a Bw w.heap.size M _ (by omega) ha (hM3.drewN m) (hA3.drewN m).at1.1).mono ?_
      rintro e w'' ⟨rfl, m', rfl⟩
      exact ⟨by rw [Int.toNat_natCast], m + m', World.drewN_drewN _ _ _⟩))
  have HB := Lib.hid (H.out.2.2.2.2.1.trans (hb.mono (by omega)))
  clear hown hb hIn hA3 hM3 hz
  go_wp2_with fail
  refine HC.out.mono ?_
  rintro e w4 ⟨rfl, m, rfl⟩
  have ev : ((intL (List.range k)).any fun x => decide (M a x.toNat < M x.toNat a)) = !topV k M a := by
    rw [intL_any]
    unfold topV
    simp only [Int.toNat_natCast, Bool.not_not]
  rw [ev]
  clear ev
  go_wp2_with fail
  go_ret
  exact ⟨rfl, below_drewN HB.out m⟩

theorem pathF_eq (k : Nat) (M : Nat → Nat → Int) : Mid.pathF k M = fidx (fun x => topV k M x.toNat) (intL (List.range k)) := by
  unfold Mid.pathF fidx intL
  rw [List.findIdx?_map]
  have : (fun x : Int => topV k M x.toNat) ∘ Int.ofNat = fun a => !(List.range k).any fun c => decide (M a c < M c a) := by
    funext a
    rfl
  rw [this]
  cases List.findIdx? (fun a => !(List.range k).any fun c => decide (M a c < M c a)) (List.range k) <;> rfl

set_option maxHeartbeats 800000 in
theorem vpaths_any (A : Option Addr) (n cap k : Nat) (V : List (List Int)) (B : List (List Nat)) (w : World) (hB : Blts V k B) (hl : V.length = n) (hV : Mat w A V) :
    Calls Try.prog 45 #[.slice A n cap] w fun e w' => e = .returned (.int .i64 (Mid.pathF k (Mid.wdK k (mmF k B) k))) ∧ Below w.heap.size w w' := by
  obtain ⟨w1, hw1⟩ : ∃ w1, w1 = w.alloc (.cells #[.slice A n cap] 37) := ⟨_, rfl⟩
  have hbox : Blk w1 w.heap.size 37 #[.slice A n cap] := by rw [hw1]; exact Blk.new _ _ _ rfl
  have hb1 : Below w.heap.size w w1 := by rw [hw1]; exact (Below.refl _ _).alloc (Nat.le_refl _) _
  have hz1 : w1.heap.size = w.heap.size + 1 := by rw [hw1]; simp
  have hn9 : 1 ≤ n ∧ n ≤ 9 := by have := hB.hB; have := hB.len; omega
  have hk5 := hB.hn
  have c1 := hbox.at1.1
  have H := Lib.hid (And.intro hB (And.intro hl (And.intro hbox (And.intro hb1 (And.intro (hV.below hb1) hz1)))))
  clear hB hl hbox hb1 hV hz1
  go_enter Try.func45, Try.ntmps45
  go_upto_region 1 with fail
  rw [← hw1]
  clear hw1
  go_wp2_with fail
  refine (vwidths_any A n cap k V B _ H.out.1 H.out.2.1 H.out.2.2.2.2.1).mono ?_
  rintro e w2 ⟨rfl, hb2⟩
  obtain ⟨M, hMe⟩ : ∃ M, M = Mid.wdK k (mmF k B) k := ⟨_, rfl⟩
  rw [← hMe]
  have HME := Lib.hid hMe
  obtain ⟨gM, hgM⟩ : ∃ gM, gM = w2.heap.size := ⟨_, rfl⟩
  have hz2 := hb2.size
  have hz1 := H.out.2.2.2.2.2
  have hgw : w.heap.size < gM := by omega
  have hN0 : Blk (w2.alloc (.cells (mcells fun _ _ => 0) 49)) gM 49 (mcells fun _ _ => 0) := Blk.new _ _ _ hgM
  obtain ⟨W3, hW3⟩ : ∃ W3, W3 = (w2.alloc (.cells (mcells fun _ _ => 0) 49)).setRow gM (mcells M) := ⟨_, rfl⟩
  have hM3 : Blk W3 gM 49 (mcells M) := by rw [hW3]; exact hN0.setRow _
  have hb3 : Below gM w2 W3 := by rw [hW3]; exact below_setRow ((Below.refl _ _).alloc (by omega) _) (Nat.le_refl _) _
  have hb13 : Below w1.heap.size w1 W3 := hb2.trans (hb3.mono (by omega))
  have hL3 : Blk W3 w.heap.size 37 #[.slice A n cap] := H.out.2.2.1.below hb13 (by omega)
  have HGM := Lib.hid hgM
  have HN0 := Lib.hid hN0
  have HW3 := Lib.hid hW3
  have H3 := Lib.hid (And.intro hM3 (And.intro hL3 (And.intro (H.out.2.2.2.2.1.below hb13) (H.out.2.2.2.1.trans (hb13.mono (by omega))))))
  clear hMe hgM hz2 hz1 hN0 hW3 hM3 hb3 hb13 hL3 hb2 c1
  go_upto_region 2 with (refine wpList_store_row rfl 49 _ _ rfl gM (mcells M) (by rw [HGM.out]; rfl) rfl 49 _ HN0.out (minfo _) (by rw [mcells_size, mcells_size]) (mcells_one _) ?_)
  generalize hW : World.setRow _ _ _ = X3
  obtain rfl : X3 = W3 := by rw [← hW, HW3.out]; rfl
  clear hW HW3
  rw [← HGM.out]
  have c1 := H3.out.2.1.at1.1
  go_wp2_with fail
  refine (vnames_any A n cap k V _ H.out.2.1 hn9.1 (by omega) H.out.1.row0.symm (by omega) H3.out.2.2.1).mono ?_
  rintro e w4 ⟨rfl, rfl⟩
  go_wp2_with fail
  refine (vupto_any k _ (by omega)).mono ?_
  rintro e w5 ⟨A', c, rfl, hown, hb⟩
  have hIn : Ints w5 A' (intL (List.range k)) := At.of_own hown
  have HC := Lib.hid (indexF_gen 62 #[.pointer (some ⟨w.heap.size, 0, none⟩), .pointer (some ⟨gM, 0, none⟩)] entF_vpaths1 A' k c (intL (List.range k)) w5 (fun wx => Below w5.heap.size w5 wx) (fun x => topV k M x.toNat)
    (by rw [intL_length, List.length_range]) (by omega) (Below.refl _ _) (fun w' hb' => hIn.below hb') (by
      rintro x hx w' hb'
      obtain ⟨y, rfl, hy⟩ := mem_intL hx
      rw [List.mem_range] at hy
      have hbl := hb.trans (hb'.mono hb.size)
      refine (vpaths1_any A n cap k y w.heap.size gM V M _ H.out.2.1 hn9 hk5 H.out.1.row0 (by omega) (H3.out.2.2.1.below hbl) (H3.out.2.1.below hbl H3.out.2.1.lt).at1.1 (H3.out.1.below hbl H3.out.1.lt)).mono ?_
      rintro e w'' ⟨rfl, hb''⟩
      exact ⟨by rw [Int.toNat_natCast], hb'.trans (hb''.mono hb'.size)⟩))
  have HB := Lib.hid (And.intro (H3.out.2.2.2.trans (hb.mono (by have := H3.out.2.2.2.size; omega))) hb.size)
  clear hown hb hIn c1
  go_wp2_with fail
  refine HC.out.mono ?_
  rintro e w6 ⟨rfl, hb6⟩
  have H6 := Lib.hid (HB.out.1.trans (hb6.mono HB.out.1.size))
  clear hb6
  go_wp2_with fail
  go_ret
  exact ⟨by rw [← HME.out, pathF_eq]; rfl, H6.out⟩

/- A region that draws its order, whose operations read and whose calls may make memory of their own but hand back plain values: walked once, in the order of the text. No program. -/

/-- A world that came of w: what w holds reads in it as in w. -/
structure Desc (w : World) where
  val : World
  below : Below w.heap.size w val

instance descNonempty (w : World) : Nonempty (Desc w) := ⟨⟨w, Below.refl _ _⟩⟩

theorem wp_region_desc {P : Program} {id : Nat} {Q : Exit → Act → World → Prop} {a : Act} {w : World} {l : List Oper} (hm : P.follows .mixedOrders = true) (hB : Region.lexB .any l.toArray = true)
    (h : wpQuiet P l.toArray (fun w' => ∃ s : Desc w, w' = s.val) (fun a' => ∀ w', (∃ s : Desc w, w' = s.val) → Q .normal a' w') l a) : (Code.region id l.toArray true).wp P Q a w :=
  wp_region_quiet (C := fun w' => ∃ s : Desc w, w' = s.val) hm hB ⟨⟨_, (Below.refl _ _).drew⟩, rfl⟩ (by simpa using h)

theorem Calls.desc_of {P : Program} {f : FuncId} {args : Array Value} {w : World} {s : Desc w} {v : Value}
    (h : Calls P f args s.val fun e w' => e = .returned v ∧ Below s.val.heap.size s.val w') : Calls P f args s.val fun e w'' => e = .returned v ∧ ∃ s' : Desc w, w'' = s'.val :=
  h.mono fun _ w' ⟨he, hb⟩ => ⟨he, ⟨w', s.below.trans (hb.mono s.below.size)⟩, rfl⟩
theorem Calls.desc_of_drew {P : Program} {f : FuncId} {args : Array Value} {w : World} {s : Desc w} {v : Value}
    (h : Calls P f args s.val fun e w' => e = .returned v ∧ ∃ n, w' = s.val.drewN n) : Calls P f args s.val fun e w'' => e = .returned v ∧ ∃ s' : Desc w, w'' = s'.val :=
  h.mono fun _ _ ⟨he, n, hn⟩ => ⟨he, ⟨_, by subst hn; exact ⟨s.below.os, s.below.tape, s.below.output, s.below.size, s.below.block⟩⟩, rfl⟩
theorem Calls.desc_of_same {P : Program} {f : FuncId} {args : Array Value} {w : World} {s : Desc w} {v : Value}
    (h : Calls P f args s.val fun e w' => e = .returned v ∧ s.val = w') : Calls P f args s.val fun e w'' => e = .returned v ∧ ∃ s' : Desc w, w'' = s'.val :=
  h.mono fun _ _ ⟨he, hn⟩ => ⟨he, s, hn.symm⟩
theorem Desc.cell {w : World} (s : Desc w) {p : Addr} {v : Value} (h : w.cell? p = some v) : s.val.cell? p = some v := by
  rcases Nat.lt_or_ge p.block w.heap.size with hlt | hge
  · exact (s.below.cell hlt).trans h
  · simp [World.cell?, Array.getElem?_eq_none hge] at h

/- A region that draws its order: first operations that read, or call what makes memory of its own and hands back plain values, then, waiting for all of them, a few in one forced order (a store, an append ..). No program. -/

section
variable {P : Program} {ops : Array Oper} {md : Region.Mode} {C : World → Prop}
/-- The first n operations in whatever order, in the class of worlds C; then L. -/
def headsIn (P : Program) (md : Region.Mode) (ops : Array Oper) (C : World → Prop) (n : Nat) (L : Array Bool → Act → Prop) : Nat → Array Bool → Act → Prop
  | 0, listed, a => L listed a
  | f + 1, listed, a => Region.ready md ops listed ≠ [] ∧ ∀ i ∈ Region.ready md ops listed, i < n ∧ qOp P ops C i (headsIn P md ops C n L f (listed.setIfInBounds i true)) a

theorem any_of_heads {n g : Nat} {L : Array Bool → Act → Prop} {Q' : Exit → Act → World → Prop} (hL : ∀ listed a w, C w → L listed a → wpAny P md ops Q' g listed a w) (f : Nat) :
    ∀ (listed : Array Bool) (a : Act) (w : World), C w → headsIn P md ops C n L f listed a → wpAny P md ops Q' (f + g) listed a w := by
  induction f with
  | zero => intro listed a w hw h; rw [Nat.zero_add]; exact hL _ _ _ hw h
  | succ f ih =>
    intro listed a w hw h
    rw [show f + 1 + g = (f + g) + 1 from by omega]
    exact ⟨fun h0 => absurd h0 h.1, fun i hi => wpOp_of_qOp hw (fun a' w' hw' h' => ih _ a' w' hw' h') (h.2 i hi).2⟩

theorem heads_first {n i : Nat} {oi : Oper} {v : Value} {L : Array Bool → Act → Prop} (hi : ops[i]? = some oi) (hsel : ∀ (j : Nat) (o : Oper) cs b, ops[j]? = some o → o.op ≠ .select cs b)
    (hs : Region.sinkB md ops n = true) (hc : Region.chainB md ops n = true) (hn : n < ops.size) (hin : i < n)
    (hdone : ∀ listed a, L listed a → ∀ j ∈ Region.ready md ops listed, n ≤ j) (f : Nat) :
    ∀ (listed : Array Bool) (a : Act), HeadInv md ops n listed →
      (∀ j oj, ops[j]? = some oj → j ≠ i → listed.getD j true = false → (∀ e ∈ oj.after, Region.binds md e = true → e.on ≠ i) → oi.apart ops oj = true) →
      i ∈ Region.ready md ops listed → YieldsIn P ops C oi v a →
      headsIn P md ops C n L f (listed.setIfInBounds i true) (a.put oi.dst v) → headsIn P md ops C n L (f + 1) listed a := by
  induction f with
  | zero =>
    intro listed a inv _ hr hy H
    have hun := (mem_ready.1 hr).1
    refine ⟨List.ne_nil_of_mem hr, fun j hj => ?_⟩
    have hjn : j < n := Nat.lt_of_not_le fun h => absurd hj (tail_waits hs hc hn inv _ i rfl hin hun j h)
    refine ⟨hjn, ?_⟩
    by_cases hji : j = i
    · subst hji; exact hy.qOp hi H
    · have := hdone _ _ H j (ready_mono hj hji)
      omega
  | succ f ih =>
    intro listed a inv hfree hr hy H
    have hun := (mem_ready.1 hr).1
    refine ⟨List.ne_nil_of_mem hr, fun j hj => ?_⟩
    have hjn : j < n := Nat.lt_of_not_le fun h => absurd hj (tail_waits hs hc hn inv _ i rfl hin hun j h)
    refine ⟨hjn, ?_⟩
    by_cases hji : j = i
    · subst hji; exact hy.qOp hi H
    · have h1 := (H.2 j (ready_mono hj hji)).2
      obtain ⟨hjun, oj, hoj, hall⟩ := mem_ready.1 hj
      have hnot : ∀ e ∈ oj.after, Region.binds md e = true → e.on ≠ i := by
        intro e he hb heq
        have h1 := hall e he hb
        rw [heq, getD_both hun] at h1
        cases h1
      have h2 := qOp_put hoj (hfree j oj hoj hji hjun hnot) (fun cs b => hsel i oi cs b hi) (fun cs b => hsel j oj cs b hoj) hy h1
      refine qOp_mono (fun a' h3 => ih (listed.setIfInBounds j true) a' (inv.set hj hjn) ?_ (ready_mono hr (Ne.symm hji)) h3.1 ?_) h2
      · intro k ok hk hki hun2 hno
        refine hfree k ok hk hki ?_ hno
        by_cases hjk : j = k
        · subst hjk; exact hjun
        · rwa [getD_set_ne true hjk] at hun2
      · rw [Array.setIfInBounds_comm _ _ hji]
        exact h3.2

theorem heads_lex {n g : Nat} {Lq : Act → Prop} (hsel : Region.noSelect ops = true) (hs : Region.sinkB md ops n = true) (hc : Region.chainB md ops n = true) (hn : n < ops.size) :
    ∀ (l : List Oper) (k : Nat) (listed : Array Bool) (a : Act), (∀ j, j < l.length → l[j]? = ops[k + j]?) → k + l.length = n → HeadInv md ops n listed →
    Region.lexHead md ops g l.length k listed = true → wpQuiet P ops C Lq l a →
    headsIn P md ops C n (fun listed' a' => Region.seqB md ops g n listed' = true ∧ Lq a') l.length listed a := by
  intro l
  induction l with
  | nil =>
    intro k listed a _ hk _ hB h
    obtain rfl : k = n := by simpa using hk
    exact ⟨by simpa [Region.lexHead] using hB, h⟩
  | cons o l ih =>
    intro k listed a hl hk inv hB h
    have h0 : ops[k]? = some o := by simpa using (hl 0 (by simp)).symm
    simp only [List.length_cons, Region.lexHead, Bool.and_eq_true] at hB
    obtain ⟨⟨hr, hf⟩, hB'⟩ := hB
    have hkn : k < n := by simp only [List.length_cons] at hk; omega
    have hr' : k ∈ Region.ready md ops listed := by simpa using hr
    have hq : qOp P ops C k (wpQuiet P ops C Lq l) a := by unfold qOp; simp only [h0]; exact h
    obtain ⟨v, hy, hK⟩ := yieldsIn_of_qOp h0 hq
    refine heads_first h0 (Region.noSelect_spec hsel) hs hc hn hkn (fun listed' a' hL => seqB_ready hL.1) l.length listed a inv (Region.free_spec h0 hf) hr' hy
      (ih (k + 1) _ _ (fun j hj => ?_) (by simp only [List.length_cons] at hk; omega) (inv.set hr' hkn) hB' hK)
    have := hl (j + 1) (by simp; omega)
    simpa [Nat.add_assoc, Nat.add_comm 1 j] using this
end

theorem wp_region_desc_tail {P : Program} {id : Nat} {Q : Exit → Act → World → Prop} {a : Act} {w : World} {l : List Oper} (n : Nat) (hm : P.follows .mixedOrders = true) (hB : Region.lexTailB .any l.toArray n = true)
    (h : wpQuiet P l.toArray (fun w' => ∃ s : Desc w, w' = s.val) (fun a' => ∀ w', (∃ s : Desc w, w' = s.val) → wpList P l.toArray Q (l.drop n) a' w') (l.take n) a) : (Code.region id l.toArray true).wp P Q a w := by
  simp only [Region.lexTailB, Bool.and_eq_true, decide_eq_true_eq] at hB
  obtain ⟨⟨⟨⟨hsel, hn⟩, hs⟩, hc⟩, hlex⟩ := hB
  have hn' : n < l.length := by simpa using hn
  have htl : (l.take n).length = n := by simp; omega
  have hdl : (l.drop n).length = l.toArray.size - n := by simp
  have inv0 : HeadInv .any l.toArray n (Array.replicate l.toArray.size false) :=
    ⟨by simp, fun j oj _ hl => (by rw [getD_replicate_false] at hl; cases hl), fun t _ ht => getD_in (by simpa using ht) (getD_replicate_false _ _)⟩
  have H := heads_lex (C := fun w' => ∃ s : Desc w, w' = s.val) (md := .any) (g := l.toArray.size - n) hsel hs hc hn (l.take n) 0 _ a (fun j hj => by
    rw [htl] at hj
    simp [hj]) (by simpa using htl) inv0 (by rw [htl]; exact hlex) h
  refine wp_region_any hm ?_
  have := any_of_heads (Q' := Q) (g := l.toArray.size - n) (fun listed a' w' hw' hL => by
    have := wpAny_of_seq (md := .any) (Q' := Q) (l.drop n) n listed a' w' (fun j => by simp [List.getElem?_drop]) (by rw [hdl]; exact hL.1) (hL.2 w' hw')
    rwa [hdl] at this) _ _ _ { w with drawn := w.drawn + 1 } ⟨⟨_, (Below.refl _ _).drew⟩, rfl⟩ H
  rw [htl, show n + (l.toArray.size - n) = l.toArray.size from by omega] at this
  exact this

/- A region that draws its order: operations that read, or call what makes memory of its own and hands back plain values; makings of variables, whose addresses nobody knows ahead; and then, waiting for all of them, a few in one forced order. No program. -/

/-- A world that came of w, in which these blocks are new and hold z. -/
structure DescA (w : World) (T : TypeId) (z : Array Value) (A : Nat → Prop) where
  val : World
  below : Below w.heap.size w val
  blks : ∀ b, A b → w.heap.size ≤ b ∧ Blk val b T z
def DescA.none (w : World) (T : TypeId) (z : Array Value) : DescA w T z (fun _ => False) := ⟨w, Below.refl _ _, fun _ h => h.elim⟩
def ins (b : Nat) (A : Nat → Prop) : Nat → Prop := fun x => x = b ∨ A x
theorem ins_comm (b c : Nat) (A : Nat → Prop) : ins b (ins c A) = ins c (ins b A) := by
  funext x
  apply propext
  unfold ins
  constructor
  · rintro (h | h | h)
    · exact .inr (.inl h)
    · exact .inl h
    · exact .inr (.inr h)
  · rintro (h | h | h)
    · exact .inr (.inl h)
    · exact .inl h
    · exact .inr (.inr h)
section
variable {w : World} {T : TypeId} {z : Array Value} {A : Nat → Prop}
theorem DescA.cell (s : DescA w T z A) {p : Addr} {v : Value} (h : w.cell? p = some v) : s.val.cell? p = some v := (s.below.cell (lt_of_cell h)).trans h
theorem Calls.descA_of {P : Program} {f : FuncId} {args : Array Value} {s : DescA w T z A} {v : Value}
    (h : Calls P f args s.val fun e w' => e = .returned v ∧ Below s.val.heap.size s.val w') : Calls P f args s.val fun e w'' => e = .returned v ∧ ∃ s' : DescA w T z A, w'' = s'.val :=
  h.mono fun _ w' ⟨he, hb⟩ => ⟨he, ⟨w', s.below.trans (hb.mono s.below.size), fun b hA => ⟨(s.blks b hA).1, (s.blks b hA).2.below hb (s.blks b hA).2.lt⟩⟩, rfl⟩
end

def ptrB (b : Nat) : Value := .pointer (some ⟨b, 0, none⟩)
/-- Is it the making of a variable of type T? -/
def isAl (T : TypeId) (o : Oper) : Bool :=
  match o.op with
  | .alloc t => t == T && o.guard.isNone
  | _ => false

section
variable {P : Program} {ops : Array Oper} {w : World} {T : TypeId} {z : Array Value}
abbrev CA (w : World) (T : TypeId) (z : Array Value) (A : Nat → Prop) : World → Prop := fun w' => ∃ s : DescA w T z A, w' = s.val
/-- One value, whichever variables have been made. -/
def YF (P : Program) (ops : Array Oper) (w : World) (T : TypeId) (z : Array Value) (o : Oper) (v : Value) (a : Act) : Prop := ∀ A, YieldsIn P ops (CA w T z A) o v a
def headsG (P : Program) (ops : Array Oper) (w : World) (T : TypeId) (z : Array Value) (N : Nat) (L : Array Bool → (Nat → Prop) → Act → Prop) : Nat → Array Bool → (Nat → Prop) → Act → Prop
  | 0, listed, A, a => L listed A a
  | f + 1, listed, A, a => Region.ready .any ops listed ≠ [] ∧ ∀ i ∈ Region.ready .any ops listed, i < N ∧ ∃ o, ops[i]? = some o ∧
      if isAl T o then ∀ b, ¬ A b → headsG P ops w T z N L f (listed.setIfInBounds i true) (ins b A) (a.put o.dst (ptrB b))
      else ∃ v, YF P ops w T z o v a ∧ headsG P ops w T z N L f (listed.setIfInBounds i true) A (a.put o.dst v)

theorem any_of_headsG {N g : Nat} {L : Array Bool → (Nat → Prop) → Act → Prop} {Q' : Exit → Act → World → Prop}
    (hal : ∀ (o : Oper) (a : Act) (w' : World) (K : Act → World → Prop), isAl T o = true → K (a.put o.dst (ptrB w'.heap.size)) (w'.alloc (.cells z T)) → o.wp P a w' K Q')
    (hL : ∀ listed A a w', CA w T z A w' → L listed A a → wpAny P .any ops Q' g listed a w') (f : Nat) :
    ∀ (listed : Array Bool) (A : Nat → Prop) (a : Act) (w' : World), CA w T z A w' → headsG P ops w T z N L f listed A a → wpAny P .any ops Q' (f + g) listed a w' := by
  induction f with
  | zero => intro listed A a w' hw h; rw [Nat.zero_add]; exact hL _ _ _ _ hw h
  | succ f ih =>
    intro listed A a w' hw h
    rw [show f + 1 + g = (f + g) + 1 from by omega]
    refine ⟨fun h0 => absurd h0 h.1, fun i hi => ?_⟩
    obtain ⟨_, o, ho, hs⟩ := h.2 i hi
    by_cases hA : isAl T o = true
    · rw [if_pos hA] at hs
      have hg : o.guard = none := by
        unfold isAl at hA
        split at hA
        · simp only [Bool.and_eq_true, Option.isNone_iff_eq_none] at hA; exact hA.2
        · cases hA
      unfold wpOp
      simp only [ho]
      rw [if_pos (by unfold Region.wanted; rw [hg])]
      obtain ⟨s, rfl⟩ := hw
      refine .inl (hal o a s.val _ hA ?_)
      refine ih _ (ins s.val.heap.size A) _ _ ⟨⟨s.val.alloc (.cells z T), s.below.alloc s.below.size _, fun b hb => ?_⟩, rfl⟩ (hs _ fun hAb => ?_)
      · rcases hb with rfl | hb
        · exact ⟨s.below.size, Blk.new _ _ _ rfl⟩
        · exact ⟨(s.blks b hb).1, (s.blks b hb).2.alloc _⟩
      · exact absurd (s.blks _ hAb).2.lt (by omega)
    · rw [if_neg hA] at hs
      obtain ⟨v, hy, hK⟩ := hs
      exact wpOp_of_qOp (C := CA w T z A) (K := headsG P ops w T z N L f (listed.setIfInBounds i true) A) hw (fun a' w'' hw' h' => ih _ _ a' w'' hw' h') ((hy A).qOp ho hK)

theorem YF.put {o : Oper} {v : Value} {a : Act} (hy : YF P ops w T z o v a) (hs : ∀ cs b, o.op ≠ .select cs b) (d : Option Tmp) (u : Value) (h : ∀ t, d = some t → t ∉ o.looksAt ops) : YF P ops w T z o v (a.put d u) :=
  fun A => (hy A).of_same (execOp_put o hs a d u h) (wanted_put o a d u h)
theorem YF.unput {o : Oper} {v : Value} {a : Act} (hs : ∀ cs b, o.op ≠ .select cs b) (d : Option Tmp) (u : Value) (h : ∀ t, d = some t → t ∉ o.looksAt ops) (hy : YF P ops w T z o v (a.put d u)) : YF P ops w T z o v a :=
  fun A => (hy A).of_same (execOp_put o hs a d u h).symm (wanted_put o a d u h).symm

theorem headsG_plain {N i : Nat} {oi : Oper} {v : Value} {L : Array Bool → (Nat → Prop) → Act → Prop} (hi : ops[i]? = some oi) (hpl : isAl T oi = false) (hsel : ∀ (j : Nat) (o : Oper) cs b, ops[j]? = some o → o.op ≠ .select cs b)
    (hs : Region.sinkB .any ops N = true) (hc : Region.chainB .any ops N = true) (hn : N < ops.size) (hin : i < N)
    (hdone : ∀ listed A a, L listed A a → ∀ j ∈ Region.ready .any ops listed, N ≤ j) (f : Nat) :
    ∀ (listed : Array Bool) (A : Nat → Prop) (a : Act), HeadInv .any ops N listed →
      (∀ j oj, ops[j]? = some oj → j ≠ i → listed.getD j true = false → (∀ e ∈ oj.after, Region.binds .any e = true → e.on ≠ i) → oi.apart ops oj = true) →
      i ∈ Region.ready .any ops listed → YF P ops w T z oi v a →
      headsG P ops w T z N L f (listed.setIfInBounds i true) A (a.put oi.dst v) → headsG P ops w T z N L (f + 1) listed A a := by
  induction f with
  | zero =>
    intro listed A a inv _ hr hy H
    have hun := (mem_ready.1 hr).1
    refine ⟨List.ne_nil_of_mem hr, fun j hj => ?_⟩
    have hjn : j < N := Nat.lt_of_not_le fun h => absurd hj (tail_waits hs hc hn inv _ i rfl hin hun j h)
    refine ⟨hjn, ?_⟩
    by_cases hji : j = i
    · subst hji; exact ⟨oi, hi, by rw [if_neg (by rw [hpl]; simp)]; exact ⟨v, hy, H⟩⟩
    · have := hdone _ _ _ H j (ready_mono hj hji)
      omega
  | succ f ih =>
    intro listed A a inv hfree hr hy H
    have hun := (mem_ready.1 hr).1
    refine ⟨List.ne_nil_of_mem hr, fun j hj => ?_⟩
    have hjn : j < N := Nat.lt_of_not_le fun h => absurd hj (tail_waits hs hc hn inv _ i rfl hin hun j h)
    refine ⟨hjn, ?_⟩
    by_cases hji : j = i
    · subst hji; exact ⟨oi, hi, by rw [if_neg (by rw [hpl]; simp)]; exact ⟨v, hy, H⟩⟩
    · obtain ⟨_, oj, hoj, h1⟩ := H.2 j (ready_mono hj hji)
      obtain ⟨hjun, oj', hoj', hall⟩ := mem_ready.1 hj
      obtain rfl : oj' = oj := by rw [hoj] at hoj'; injection hoj' with h; exact h.symm
      have hnot : ∀ e ∈ oj'.after, Region.binds .any e = true → e.on ≠ i := by
        intro e he hb heq
        have h1 := hall e he hb
        rw [heq, getD_both hun] at h1
        cases h1
      obtain ⟨p1, p2, p3⟩ := Oper.apart_spec (hfree j oj' hoj hji hjun hnot)
      have hfree' : ∀ k ok, ops[k]? = some ok → k ≠ i → (listed.setIfInBounds j true).getD k true = false → (∀ e ∈ ok.after, Region.binds .any e = true → e.on ≠ i) → oi.apart ops ok = true := by
        intro k ok hk hki hun2 hno
        refine hfree k ok hk hki ?_ hno
        by_cases hjk : j = k
        · subst hjk; exact hjun
        · rwa [getD_set_ne true hjk] at hun2
      refine ⟨oj', hoj, ?_⟩
      by_cases hA : isAl T oj' = true
      · rw [if_pos hA] at h1 ⊢
        intro b hb
        refine ih _ _ _ (inv.set hj hjn) hfree' (ready_mono hr (Ne.symm hji)) (hy.put (fun cs b => hsel i oi cs b hi) _ _ p3) ?_
        rw [Array.setIfInBounds_comm _ _ hji, ← Act.put_comm a v (ptrB b) p2]
        exact h1 b hb
      · rw [if_neg hA] at h1 ⊢
        obtain ⟨u, hyu, hK⟩ := h1
        refine ⟨u, hyu.unput (fun cs b => hsel j oj' cs b hoj) _ _ p1, ih _ _ _ (inv.set hj hjn) hfree' (ready_mono hr (Ne.symm hji)) (hy.put (fun cs b => hsel i oi cs b hi) _ _ p3) ?_⟩
        rw [Array.setIfInBounds_comm _ _ hji, ← Act.put_comm a v u p2]
        exact hK

theorem headsG_alloc {N i : Nat} {oi : Oper} {L : Array Bool → (Nat → Prop) → Act → Prop} (hi : ops[i]? = some oi) (hpl : isAl T oi = true)
    (hs : Region.sinkB .any ops N = true) (hc : Region.chainB .any ops N = true) (hn : N < ops.size) (hin : i < N)
    (hdone : ∀ listed A a, L listed A a → ∀ j ∈ Region.ready .any ops listed, N ≤ j) (f : Nat) :
    ∀ (listed : Array Bool) (A : Nat → Prop) (a : Act), HeadInv .any ops N listed →
      (∀ j oj, ops[j]? = some oj → j ≠ i → listed.getD j true = false → (∀ e ∈ oj.after, Region.binds .any e = true → e.on ≠ i) → oi.apart ops oj = true) →
      (∀ j oj, j < N → ops[j]? = some oj → listed.getD j true = false → isAl T oj = true) →
      i ∈ Region.ready .any ops listed →
      (∀ b, ¬ A b → headsG P ops w T z N L f (listed.setIfInBounds i true) (ins b A) (a.put oi.dst (ptrB b))) → headsG P ops w T z N L (f + 1) listed A a := by
  induction f with
  | zero =>
    intro listed A a inv _ hall0 hr H
    have hun := (mem_ready.1 hr).1
    refine ⟨List.ne_nil_of_mem hr, fun j hj => ?_⟩
    have hjn : j < N := Nat.lt_of_not_le fun h => absurd hj (tail_waits hs hc hn inv _ i rfl hin hun j h)
    refine ⟨hjn, ?_⟩
    obtain ⟨hjun, oj, hoj, hall⟩ := mem_ready.1 hj
    by_cases hji : j = i
    · subst hji; exact ⟨oi, hi, by rw [if_pos hpl]; exact H⟩
    · refine ⟨oj, hoj, ?_⟩
      rw [if_pos (hall0 j oj hjn hoj hjun)]
      intro b hb
      have := hdone _ _ _ (H b hb) j (ready_mono hj hji)
      omega
  | succ f ih =>
    intro listed A a inv hfree hall0 hr H
    have hun := (mem_ready.1 hr).1
    refine ⟨List.ne_nil_of_mem hr, fun j hj => ?_⟩
    have hjn : j < N := Nat.lt_of_not_le fun h => absurd hj (tail_waits hs hc hn inv _ i rfl hin hun j h)
    refine ⟨hjn, ?_⟩
    obtain ⟨hjun, oj, hoj, hall⟩ := mem_ready.1 hj
    by_cases hji : j = i
    · subst hji; exact ⟨oi, hi, by rw [if_pos hpl]; exact H⟩
    · have hnot : ∀ e ∈ oj.after, Region.binds .any e = true → e.on ≠ i := by
        intro e he hb heq
        have h1 := hall e he hb
        rw [heq, getD_both hun] at h1
        cases h1
      obtain ⟨p1, p2, p3⟩ := Oper.apart_spec (hfree j oj hoj hji hjun hnot)
      have hAj := hall0 j oj hjn hoj hjun
      refine ⟨oj, hoj, ?_⟩
      rw [if_pos hAj]
      intro b' hb'
      refine ih _ _ _ (inv.set hj hjn) ?_ ?_ (ready_mono hr (Ne.symm hji)) fun b hb => ?_
      · intro k ok hk hki hun2 hno
        refine hfree k ok hk hki ?_ hno
        by_cases hjk : j = k
        · subst hjk; exact hjun
        · rwa [getD_set_ne true hjk] at hun2
      · intro k ok hkN hk hun2
        refine hall0 k ok hkN hk ?_
        by_cases hjk : j = k
        · subst hjk; exact hjun
        · rwa [getD_set_ne true hjk] at hun2
      · have hbA : ¬ A b := fun h => hb (.inr h)
        obtain ⟨_, oj2, hoj2, h1⟩ := (H b hbA).2 j (ready_mono hj hji)
        obtain rfl : oj2 = oj := by rw [hoj] at hoj2; injection hoj2 with h; exact h.symm
        rw [if_pos hAj] at h1
        have h2 := h1 b' (fun h => by
          rcases h with h | h
          · exact hb (.inl h.symm)
          · exact hb' h)
        rw [Array.setIfInBounds_comm _ _ hji, ins_comm, ← Act.put_comm a (ptrB b) (ptrB b') p2]
        exact h2
end

/- The law of a region that draws its order and makes variables, ready for a walk. No program. -/

section
variable {P : Program} {ops : Array Oper} {w : World} {T : TypeId} {z : Array Value}
theorem put_size (a : Act) (d : Option Tmp) (v : Value) : (a.put d v).tmps.size = a.tmps.size := by
  cases d <;> simp [Act.put]
theorem put_other (a : Act) (d : Option Tmp) (v : Value) {t : Tmp} (h : d ≠ some t) : (a.put d v).tmps[t]? = a.tmps[t]? := by
  cases d with
  | none => rfl
  | some d =>
    have hne : d ≠ t := fun e => h (by rw [e])
    simp [Act.put, Array.getElem?_setIfInBounds_ne hne]
theorem put_same (a : Act) {d : Tmp} (v : Value) (h : d < a.tmps.size) : (a.put (some d) v).tmps[d]? = some v := by
  simp [Act.put, h]
theorem quiet_vac {C C' : World → Prop} {Q : Act → Prop} (hC : ∀ w, ¬ C' w) : ∀ (l : List Oper) (a : Act), wpQuiet P ops C Q l a → wpQuiet P ops C' Q l a
  | [], _, h => h
  | o :: l, a, h => by
    unfold wpQuiet at h ⊢
    split at h
    · rename_i hw
      obtain ⟨v, _, h2⟩ := h
      rw [if_pos hw]
      exact ⟨v, fun w hw => (hC w hw).elim, quiet_vac hC l _ h2⟩
    · rename_i hw
      rw [if_neg hw]
      exact quiet_vac hC l _ h
/-- What the walk's end says of a temporary that nobody writes. -/
theorem quiet_pin {C : World → Prop} {aF : Act} {t : Tmp} : ∀ (l : List Oper) (a : Act), (∀ o ∈ l, o.dst ≠ some t) → wpQuiet P ops C (fun a' => a' = aF) l a → aF.tmps[t]? = a.tmps[t]?
  | [], a, _, h => by
    have h : a = aF := h
    rw [h]
  | o :: l, a, hd, h => by
    have ho := hd o (List.mem_cons_self ..)
    have hl : ∀ o ∈ l, o.dst ≠ some t := fun o h => hd o (List.mem_cons_of_mem _ h)
    unfold wpQuiet at h
    split at h
    · obtain ⟨v, _, h2⟩ := h
      rw [quiet_pin l _ hl h2, put_other _ _ _ ho]
    · rw [quiet_pin l _ hl h, put_other _ _ _ ho]
/-- Each writes a temporary of its own, and makes no variable. -/
def plainOk (T : TypeId) (sz : Nat) : List Oper → Bool
  | [] => true
  | o :: l => !isAl T o && (match o.dst with
    | some d => decide (d < sz) && l.all fun p => p.dst != some d
    | none => false) && plainOk T sz l
theorem headsG_lex_plain {N n g : Nat} {L : Array Bool → (Nat → Prop) → Act → Prop} {aF : Act} (hsel : Region.noSelect ops = true) (hs : Region.sinkB .any ops N = true) (hc : Region.chainB .any ops N = true) (hn : N < ops.size) (hnN : n ≤ N)
    (hdone : ∀ listed A a, L listed A a → ∀ j ∈ Region.ready .any ops listed, N ≤ j) (A : Nat → Prop)
    (hfin : ∀ listed, HeadInv .any ops N listed → Region.lexHead .any ops g (N - n) n listed = true → (∀ j, j < n → listed.getD j true = true) → headsG P ops w T z N L (N - n) listed A aF) :
    ∀ (l : List Oper) (k : Nat) (listed : Array Bool) (a : Act), (∀ j, j < l.length → l[j]? = ops[k + j]?) → k + l.length = n → HeadInv .any ops N listed → (∀ j, j < k → listed.getD j true = true) →
    Region.lexHead .any ops g (N - k) k listed = true → plainOk T a.tmps.size l = true → (∀ A', wpQuiet P ops (CA w T z A') (fun a' => a' = aF) l a) → headsG P ops w T z N L (N - k) listed A a := by
  intro l
  induction l with
  | nil =>
    intro k listed a _ hk inv hls hB _ h
    obtain rfl : k = n := by simpa using hk
    have h0 : a = aF := h fun _ => False
    rw [h0]
    exact hfin listed inv hB hls
  | cons o l ih =>
    intro k listed a hl hk inv hls hB hp h
    have h0 : ops[k]? = some o := by simpa using (hl 0 (by simp)).symm
    have hkN : k < N := by simp only [List.length_cons] at hk; omega
    obtain ⟨f, hf⟩ : ∃ f, N - k = f + 1 := ⟨N - k - 1, by omega⟩
    have hf2 : N - (k + 1) = f := by omega
    rw [hf] at hB ⊢
    simp only [Region.lexHead, Bool.and_eq_true] at hB
    obtain ⟨⟨hr, hfr⟩, hB'⟩ := hB
    have hr' : k ∈ Region.ready .any ops listed := by simpa using hr
    simp only [plainOk, Bool.and_eq_true, Bool.not_eq_true'] at hp
    obtain ⟨⟨hp1, hp2⟩, hp3⟩ := hp
    obtain ⟨d, hd, hdz, hdl⟩ : ∃ d, o.dst = some d ∧ d < a.tmps.size ∧ ∀ p ∈ l, p.dst ≠ some d := by
      split at hp2
      · rename_i d hd
        simp only [Bool.and_eq_true, decide_eq_true_eq] at hp2
        refine ⟨d, hd, hp2.1, fun p hpm => ?_⟩
        have := List.all_eq_true.1 hp2.2 p hpm
        simpa using this
      · cases hp2
    obtain ⟨v, hv⟩ : ∃ v, aF.tmps[d]? = some v := by
      have := h fun _ => False
      unfold wpQuiet at this
      split at this
      · obtain ⟨v, _, h2⟩ := this
        exact ⟨v, by rw [quiet_pin l _ hdl h2, hd]; exact put_same a v hdz⟩
      · exact ⟨undef, by rw [quiet_pin l _ hdl this, hd]; exact put_same a _ hdz⟩
    have key : ∀ A', YieldsIn P ops (CA w T z A') o v a ∧ wpQuiet P ops (CA w T z A') (fun a' => a' = aF) l (a.put o.dst v) := by
      intro A'
      have h1 := h A'
      unfold wpQuiet at h1
      split at h1
      · rename_i hw
        obtain ⟨u, hu, h2⟩ := h1
        have e := quiet_pin l _ hdl h2
        rw [hd, put_same a u hdz, hv] at e
        injection e with e
        subst e
        exact ⟨.inl ⟨hw, hu⟩, h2⟩
      · rename_i hw
        have e := quiet_pin l _ hdl h1
        rw [hd, put_same a _ hdz, hv] at e
        injection e with e
        subst e
        exact ⟨.inr ⟨by simpa using hw, rfl⟩, h1⟩
    refine headsG_plain h0 hp1 (Region.noSelect_spec hsel) hs hc hn hkN hdone f listed A a inv (Region.free_spec h0 hfr) hr' (fun A' => (key A').1) ?_
    rw [← hf2]
    refine ih (k + 1) _ _ (fun j hj => ?_) (by simp only [List.length_cons] at hk; omega) (inv.set hr' hkN) (fun j hj => ?_) (by rw [hf2]; exact hB') (by rw [put_size]; exact hp3) fun A' => (key A').2
    · have := hl (j + 1) (by simp; omega)
      simpa [Nat.add_assoc, Nat.add_comm 1 j] using this
    · by_cases e : k = j
      · subst e
        have : k < listed.size := by rw [inv.size]; exact (Array.getElem?_eq_some_iff.1 h0).1
        simp [this]
      · rw [getD_set_ne true e]; exact hls j (by omega)
/-- The makings of variables, one behind another, each at an address of its own. -/
def alW (Lq : (Nat → Prop) → Act → Prop) : List Oper → (Nat → Prop) → Act → Prop
  | [], A, a => Lq A a
  | o :: l, A, a => ∀ b, ¬ A b → alW Lq l (ins b A) (a.put o.dst (ptrB b))
theorem headsG_lex_alloc {N g : Nat} {Lq : (Nat → Prop) → Act → Prop} (hs : Region.sinkB .any ops N = true) (hc : Region.chainB .any ops N = true) (hn : N < ops.size) :
    ∀ (l : List Oper) (k : Nat) (listed : Array Bool) (A : Nat → Prop) (a : Act), (∀ j, j < l.length → l[j]? = ops[k + j]?) → k + l.length = N → HeadInv .any ops N listed → (∀ j, j < k → listed.getD j true = true) →
    Region.lexHead .any ops g (N - k) k listed = true → l.all (isAl T) = true → alW Lq l A a → headsG P ops w T z N (fun listed' A' a' => Region.seqB .any ops g N listed' = true ∧ Lq A' a') (N - k) listed A a := by
  intro l
  induction l with
  | nil =>
    intro k listed A a _ hk inv hls hB _ h
    obtain rfl : k = N := by simpa using hk
    rw [Nat.sub_self] at hB ⊢
    exact ⟨by simpa [Region.lexHead] using hB, h⟩
  | cons o l ih =>
    intro k listed A a hl hk inv hls hB hp h
    have h0 : ops[k]? = some o := by simpa using (hl 0 (by simp)).symm
    have hkN : k < N := by simp only [List.length_cons] at hk; omega
    obtain ⟨f, hf⟩ : ∃ f, N - k = f + 1 := ⟨N - k - 1, by omega⟩
    have hf2 : N - (k + 1) = f := by omega
    rw [hf] at hB ⊢
    simp only [Region.lexHead, Bool.and_eq_true] at hB
    obtain ⟨⟨hr, hfr⟩, hB'⟩ := hB
    have hr' : k ∈ Region.ready .any ops listed := by simpa using hr
    simp only [List.all_cons, Bool.and_eq_true] at hp
    refine headsG_alloc h0 hp.1 hs hc hn hkN (fun listed' A' a' hL => seqB_ready hL.1) f listed A a inv (Region.free_spec h0 hfr) ?_ hr' fun b hb => ?_
    · intro j oj hjN hoj hun
      by_cases hjk : j < k
      · rw [hls j hjk] at hun; cases hun
      · have hj2 : j - k < (o :: l).length := by omega
        have e := hl (j - k) hj2
        rw [show k + (j - k) = j by omega, hoj] at e
        have hm := List.mem_of_getElem? e
        rcases List.mem_cons.1 hm with rfl | hm
        · exact hp.1
        · exact List.all_eq_true.1 hp.2 oj hm
    · rw [← hf2]
      refine ih (k + 1) _ _ _ (fun j hj => ?_) (by simp only [List.length_cons] at hk; omega) (inv.set hr' hkN) (fun j hj => ?_) (by rw [hf2]; exact hB') hp.2 (h b hb)
      · have := hl (j + 1) (by simp; omega)
        simpa [Nat.add_assoc, Nat.add_comm 1 j] using this
      · by_cases e : k = j
        · subst e
          have : k < listed.size := by rw [inv.size]; exact (Array.getElem?_eq_some_iff.1 h0).1
          simp [this]
        · rw [getD_set_ne true e]; exact hls j (by omega)
end

theorem wp_region_desc_alloc {P : Program} {id : Nat} {Q : Exit → Act → World → Prop} {a : Act} {w : World} {l : List Oper} (n m : Nat) (T : TypeId) (z : Array Value)
    (hal : ∀ (o : Oper) (a : Act) (w' : World) (K : Act → World → Prop), isAl T o = true → K (a.put o.dst (ptrB w'.heap.size)) (w'.alloc (.cells z T)) → o.wp P a w' K Q)
    (hm : P.follows .mixedOrders = true) (hB : Region.lexTailB .any l.toArray (n + m) = true) (hp : plainOk T a.tmps.size (l.take n) = true) (ha : ((l.drop n).take m).all (isAl T) = true)
    (aF : Act) (h : ∀ A, Nonempty (DescA w T z A) → ∀ Q' : Act → Prop, Q' aF → wpQuiet P l.toArray (fun w' => ∃ s : DescA w T z A, w' = s.val) Q' (l.take n) a)
    (hq : alW (fun A a' => ∀ s : DescA w T z A, wpList P l.toArray Q (l.drop (n + m)) a' s.val) ((l.drop n).take m) (fun _ => False) aF) : (Code.region id l.toArray true).wp P Q a w := by
  simp only [Region.lexTailB, Bool.and_eq_true, decide_eq_true_eq] at hB
  obtain ⟨⟨⟨⟨hsel, hn⟩, hs⟩, hc⟩, hlex⟩ := hB
  have hn' : n + m < l.length := by simpa using hn
  have hdl : (l.drop (n + m)).length = l.toArray.size - (n + m) := by simp
  have inv0 : HeadInv .any l.toArray (n + m) (Array.replicate l.toArray.size false) :=
    ⟨by simp, fun j oj _ hl => (by rw [getD_replicate_false] at hl; cases hl), fun t _ ht => getD_in (by simpa using ht) (getD_replicate_false _ _)⟩
  have hn0 : n + m - 0 = n + m := rfl
  have H := headsG_lex_plain (P := P) (w := w) (T := T) (z := z) (ops := l.toArray) (N := n + m) (n := n) (g := l.toArray.size - (n + m)) (aF := aF)
    (L := fun listed' A' a' => Region.seqB .any l.toArray (l.toArray.size - (n + m)) (n + m) listed' = true ∧ ∀ s : DescA w T z A', wpList P l.toArray Q (l.drop (n + m)) a' s.val)
    hsel hs hc hn (by omega) (fun listed A a hL => seqB_ready hL.1) (fun _ => False)
    (fun listed inv hB2 hls => headsG_lex_alloc hs hc hn ((l.drop n).take m) n listed (fun _ => False) aF (fun j hj => by
      have hj2 : j < m := by simp at hj; omega
      simp [List.getElem?_drop, hj2]) (by simp; omega) inv hls hB2 ha hq)
    (l.take n) 0 (Array.replicate l.toArray.size false) a (fun j hj => by
      have hj2 : j < n := by simp at hj; omega
      simp [hj2]) (by simp; omega) inv0 (fun j hj => by omega) (by rw [hn0]; exact hlex) hp (fun A => by
      by_cases hne : Nonempty (DescA w T z A)
      · exact h A hne _ rfl
      · exact quiet_vac (fun w' ⟨s, _⟩ => hne ⟨s⟩) _ _ (h (fun _ => False) ⟨DescA.none w T z⟩ _ rfl))
  refine wp_region_any hm ?_
  have := any_of_headsG (Q' := Q) (g := l.toArray.size - (n + m)) hal (fun listed A a' w' hw' hL => by
    obtain ⟨s, rfl⟩ := hw'
    have := wpAny_of_seq (md := .any) (Q' := Q) (l.drop (n + m)) (n + m) listed a' s.val (fun j => by simp [List.getElem?_drop]) (by rw [hdl]; exact hL.1) (hL.2 s)
    rwa [hdl] at this) _ _ _ _ { w with drawn := w.drawn + 1 } ⟨⟨_, (Below.refl _ _).drew, fun _ h => h.elim⟩, rfl⟩ H
  rw [hn0, show n + m + (l.toArray.size - (n + m)) = l.toArray.size from by omega] at this
  exact this

/- Contract: bends of package vote. -/

/-- Is the candidate at place j behind both of two others between which it is? -/
def bendAt (ax b : List Nat) (j : Nat) : Bool := (ax.take j).any (fun x => Mid.bf b x (ax.getD j 0)) && (ax.drop (j + 1)).any (fun x => Mid.bf b x (ax.getD j 0))
theorem bendB_at (ax b : List Nat) : Mid.bendB ax b = (List.range ax.length).any (bendAt ax b) := rfl
theorem bend_yes {ax b : List Nat} {j : Nat} (hj : j < ax.length) (h : bendAt ax b j = true) : Mid.bendB ax b = true := by
  rw [bendB_at, List.any_eq_true]; exact ⟨j, List.mem_range.2 hj, h⟩
theorem bend_no {ax b : List Nat} {j : Nat} (hj : ax.length ≤ j + 1) (h : ∀ i, i < j → bendAt ax b i = false) : Mid.bendB ax b = false := by
  rw [bendB_at, List.any_eq_false]
  intro i hi
  rw [List.mem_range] at hi
  by_cases e : i < j
  · rw [h i e]; simp
  · have : (ax.drop (i + 1)) = [] := List.drop_of_length_le (by omega)
    unfold bendAt
    rw [this]; simp
theorem bendAt_zero (ax b : List Nat) : bendAt ax b 0 = false := by unfold bendAt; simp

set_option maxHeartbeats 800000 in
theorem vbends1_any (x y Bb By : Nat) (A : Option Addr) (k c : Nat) (b : List Nat) (w : World) (hb : b.length = k) (hk : k ≤ 1000) (hx : x ∈ b) (hBb : w.cell? ⟨Bb, 0, none⟩ = some (.slice A k c)) (hBy : w.cell? ⟨By, 0, none⟩ = some (.int .i64 (y : Int))) (hI : Ints w A (intL b)) :
    Calls Try.prog 53 #[.int .i64 (x : Int), .pointer (some ⟨Bb, 0, none⟩), .pointer (some ⟨By, 0, none⟩)] w fun e w' => e = .returned (.bool (decide (b.idxOf x < y))) ∧ Below w.heap.size w w' := by
  have HI : Hid (∀ s : Desc w, Calls Try.prog 8 #[.slice A k c, .int .i64 (x : Int)] s.val fun e w'' => e = .returned (.int .i64 (b.idxOf x : Nat)) ∧ ∃ s' : Desc w, w'' = s'.val) := Lib.hid fun s => Calls.desc_of_same (by
    have h := index_any A k c (intL b) (x : Int) s.val (by rw [intL_length]; exact hb) (by omega) (hI.below s.below)
    rw [idx_intL hx] at h
    exact h)
  have d1 : ∀ s : Desc w, s.val.cell? ⟨Bb, 0, none⟩ = some (.slice A k c) := fun s => s.cell hBb
  have d2 : ∀ s : Desc w, s.val.cell? ⟨By, 0, none⟩ = some (.int .i64 (y : Int)) := fun s => s.cell hBy
  clear hI hb hBb hBy
  obtain ⟨p, hp⟩ : ∃ p, p = b.idxOf x := ⟨_, rfl⟩
  rw [← hp] at HI ⊢
  clear hp
  go_enter Try.func53, Try.ntmps53
  go_wp2_with fail
  refine wp_region_desc (by kernel_rfl) (by kernel_rfl) ?_
  repeat (go_big_quiet_step (first | (go_at_call 8; exact HI.out _)))
  refine wpQuiet_nil ?_
  rintro _ ⟨s, rfl⟩
  have hbs := s.below
  generalize s.val = w7 at hbs ⊢
  go_wp2_with fail
  go_ret
  exact ⟨rfl, hbs⟩
theorem entF_vbends1 : EntF 53 := entF_of Try.func53 (by kernel_rfl) (by kernel_rfl)

theorem al_int {Q : Exit → Act → World → Prop} (o : Oper) (a : Act) (w' : World) (K : Act → World → Prop) (ho : isAl 3 o = true) (hK : K (a.put o.dst (ptrB w'.heap.size)) (w'.alloc (.cells #[.int .i64 0] 3))) : o.wp Try.prog a w' K Q := by
  unfold isAl at ho
  split at ho
  · rename_i t ht
    simp only [Bool.and_eq_true, beq_iff_eq] at ho
    obtain ⟨rfl, _⟩ := ho
    unfold Oper.wp execOp
    rw [ht]
    have hr : ∀ w : World, (newVar 3 (.agg #[.int .i64 0, .int .i64 0])).run Try.prog w = .ok ⟨w.heap.size, 0, none⟩ (w.alloc (.cells #[.int .i64 0, .int .i64 0] 3)) := fun w => by kernel_rfl
    simp [go_sem, Oper.upon]
    exact hK
  · cases ho

set_option maxRecDepth 100000 in
set_option maxHeartbeats 4000000 in
theorem vbends_any (O A : Option Addr) (k co c : Nat) (ax b : List Nat) (w : World) (hk : 1 ≤ k ∧ k ≤ 5) (ha : Mid.Odr k ax) (hb : Mid.Odr k b) (hco : k ≤ co) (hco2 : co ≤ 9223372036854775807) (hO : Ints w O (intL ax)) (hI : Ints w A (intL b)) :
    Calls Try.prog 30 #[.slice O k co, .slice A k c] w fun e w' => e = .returned (.bool (Mid.bendB ax b)) ∧ Below w.heap.size w w' := by
  obtain ⟨ao, rfl, hao, hcs⟩ := hO.some_ (by rw [intL_length, ha.len]; omega)
  obtain ⟨w1, hw1⟩ : ∃ w1, w1 = w.alloc (.cells #[.slice A k c] 23) := ⟨_, rfl⟩
  have hb1 : Below w.heap.size w w1 := by rw [hw1]; exact (Below.refl _ _).alloc (Nat.le_refl _) _
  have hB1 : Blk w1 w.heap.size 23 #[.slice A k c] := by rw [hw1]; exact Blk.new _ _ _ rfl
  have hz1 : w1.heap.size = w.heap.size + 1 := by rw [hw1]; simp
  have hcs' : ∀ i, i < k → ∀ wx, Below w.heap.size w wx → wx.cell? (ao.add i) = some (.int .i64 ((ax.getD i 0 : Nat) : Int)) := fun i hi wx hbx => by
    have h1 : (intL ax)[i]? = some ((ax.getD i 0 : Nat) : Int) := intL_some (by rw [List.getD_eq_getElem?_getD, List.getElem?_eq_getElem (by rw [ha.len]; exact hi)]; rfl)
    have h2 := hcs i _ h1
    exact (hbx.cell (lt_of_cell h2)).trans h2
  have H := Lib.hid (And.intro ha (And.intro hb (And.intro hb1 (And.intro hB1 (And.intro hz1 (And.intro hcs' (And.intro hO hI)))))))
  clear ha hb hb1 hB1 hz1 hcs hcs' hO hI
  go_enter Try.func30, Try.ntmps30
  go_upto_region 1 with fail
  rw [← hw1]
  clear hw1
  go_upto_region 2 with fail
  go_loopw [5] (fun jv wx => ∃ j : Nat, 1 ≤ j ∧ j ≤ k ∧ jv = .int .i64 j ∧ (∀ i, i < j → bendAt ax b i = false) ∧ Below w1.heap.size w1 wx) (fun jv _ => k + 1 - (intOf jv).toNat)
  case atStart => exact ⟨1, Nat.le_refl _, hk.1, rfl, (fun i hi => by have : i = 0 := by omega
                                                                      subst this; exact bendAt_zero _ _), Below.refl _ _⟩
  case round =>
    obtain ⟨j, hj1, hjk, rfl, hno, hbl⟩ := hrel
    obtain ⟨wo, rfl⟩ : ∃ wo : World, wo = wr := ⟨_, rfl⟩
    have HR := Lib.hid (And.intro hno hbl)
    have hwsz := hbl.size
    clear hno hbl
    by_cases hlt : j + 1 < k
    · have l1 : (j : Int) + 1 < (k : Int) := by omega
      obtain ⟨x, hx⟩ : ∃ x, x = ax.getD j 0 := ⟨_, rfl⟩
      have hxk : x < k := by rw [hx]; exact H.out.1.get_lt (by omega)
      have hxb : x ∈ b := (H.out.2.1.mem x).2 hxk
      have c1 := H.out.2.2.2.2.2.1 j (by omega) wo (H.out.2.2.1.trans (HR.out.2.mono (by have := H.out.2.2.2.2.1; omega)))
      rw [← hx] at c1
      have hz1 := H.out.2.2.2.2.1
      have hbwo : Below w.heap.size w wo := H.out.2.2.1.trans (HR.out.2.mono (by omega))
      have c2 := (H.out.2.2.2.1.below HR.out.2 (by omega)).at1.1
      have HX := Lib.hid (And.intro hx (And.intro hxk (And.intro hxb hbwo)))
      obtain ⟨y, hy⟩ : ∃ y, y = b.idxOf x := ⟨_, rfl⟩
      have HIX : Hid (∀ W', Below wo.heap.size wo W' → Calls Try.prog 8 #[.slice A k c, .int .i64 (x : Int)] W' fun e w' => e = .returned (.int .i64 (y : Int)) ∧ Below W'.heap.size W' w') := Lib.hid fun W' hbW => by
        have h := index_any A k c (intL b) (x : Int) W' (by rw [intL_length]; exact H.out.2.1.len) (by omega) ((H.out.2.2.2.2.2.2.2.below hbwo).below hbW)
        rw [idx_intL hxb, ← hy] at h
        exact h.mono fun _ _ ⟨a, b⟩ => ⟨a, b ▸ Below.refl _ _⟩
      have HC12 := Lib.hid (And.intro c1 c2)
      have HY := Lib.hid hy
      clear hx hxk hxb hz1 hbwo hy c1 c2
      go_upto_region 4 with fail
      refine' wp_region_desc_alloc 6 1 3 #[.int .i64 0] al_int (by kernel_rfl) (by kernel_rfl) (by kernel_rfl) (by kernel_rfl) _ ?hh ?hq
      case hh =>
        intro A' hne Q' hQ'
        have e1 : ∀ s : DescA wo 3 #[.int .i64 0] A', s.val.cell? (ao.add j) = some (.int .i64 (x : Int)) := fun s => s.cell HC12.out.1
        have e2 : ∀ s : DescA wo 3 #[.int .i64 0] A', s.val.cell? ⟨w.heap.size, 0, none⟩ = some (.slice A k c) := fun s => s.cell HC12.out.2
        have HI2 : Hid (∀ sd : DescA wo 3 #[.int .i64 0] A', Calls Try.prog 8 #[.slice A k c, .int .i64 (x : Int)] sd.val fun e w'' => e = .returned (.int .i64 (y : Int)) ∧ ∃ s' : DescA wo 3 #[.int .i64 0] A', w'' = s'.val) := Lib.hid fun sd => Calls.descA_of (HIX.out _ sd.below)
        simp only [List.take_succ_cons, List.take_zero]
        repeat (go_big_quiet_step (first | (go_at_call 8; exact HI2.out _)))
        refine wpQuiet_nil ?_
        exact hQ'
      case hq =>
        simp only [List.take_succ_cons, List.take_zero, List.drop_succ_cons, List.drop_zero]
        intro By _ sd
        have hb3 := sd.below
        obtain ⟨z5, B5⟩ := sd.blks By (.inl rfl)
        generalize sd.val = w4 at hb3 B5 ⊢
        unfold ptrB
        obtain ⟨y1, y2⟩ := B5.at1
        have B6 := B5.set_ 0 (.int .i64 (y : Int))
        have hb6 : Below wo.heap.size wo (w4.setCell ⟨By, 0, none⟩ (.int .i64 (y : Int))) := hb3.setCell (p := ⟨By, 0, none⟩) z5 _
        obtain ⟨w6, hw6⟩ : ∃ w6, w6 = w4.setCell ⟨By, 0, none⟩ (.int .i64 (y : Int)) := ⟨_, rfl⟩
        rw [← hw6] at B6 hb6
        have H6 := Lib.hid (And.intro B6 hb6)
        clear B5 B6 hb3 hb6 HIX
        go_upto_region 6 with fail
        rw [← hw6]
        clear hw6
        have hz1 := H.out.2.2.2.2.1
        have hb06 : Below w.heap.size w w6 := HX.out.2.2.2.trans (H6.out.2.mono (by omega))
        have hO6 : Ints w6 (some ao) (intL ax) := H.out.2.2.2.2.2.2.1.below hb06
        have hI6 : Ints w6 A (intL b) := H.out.2.2.2.2.2.2.2.below hb06
        have hBb6 : Blk w6 w.heap.size 23 #[.slice A k c] := (H.out.2.2.2.1.below HR.out.2 (by omega)).below H6.out.2 (by omega)
        have key : ∀ (A2 : Option Addr) (m c2 : Nat) (l : List Nat), l.length = m → m ≤ 5 → (∀ x ∈ l, x ∈ ax) → ∀ w7, Below w6.heap.size w6 w7 → Ints w6 A2 (intL l) →
            Calls Try.prog 28 #[.slice A2 m c2, .func (.func 53) #[] #[.pointer (some ⟨w.heap.size, 0, none⟩), .pointer (some ⟨By, 0, none⟩)]] w7 fun e w8 => e = .returned (.bool (l.any fun x => Mid.bf b x (ax.getD j 0))) ∧ Below w6.heap.size w6 w8 := by
          intro A2 m c2 l hlm hm5 hsub w7 hb7 hI2
          have h := containsF_gen 53 #[.pointer (some ⟨w.heap.size, 0, none⟩), .pointer (some ⟨By, 0, none⟩)] entF_vbends1 A2 m c2 (intL l) w7 (fun wx => Below w6.heap.size w6 wx) (fun x => decide (b.idxOf x.toNat < y)) (by rw [intL_length]; exact hlm) (by omega) hb7 (fun w' hb' => hI2.below hb') (by
            intro z hz w' hb'
            obtain ⟨z', rfl, hz'⟩ := mem_intL hz
            have hzb : z' ∈ b := (H.out.2.1.mem z').2 ((H.out.1.mem z').1 (hsub z' hz'))
            refine (vbends1_any z' y w.heap.size By A k c b w' H.out.2.1.len (by omega) hzb (hBb6.below hb' hBb6.lt).at1.1 (H6.out.1.below hb' H6.out.1.lt).at1.1 (hI6.below hb')).mono ?_
            rintro e w'' ⟨rfl, hb''⟩
            exact ⟨by rw [Int.toNat_natCast], hb'.trans (hb''.mono hb'.size)⟩)
          rw [intL_any] at h
          have e : (l.any fun x => decide (b.idxOf ((x : Int).toNat) < y)) = l.any fun x => Mid.bf b x (ax.getD j 0) := by
            congr 1
            funext x
            rw [Int.toNat_natCast, HY.out, HX.out.1]; rfl
          rw [e] at h
          exact h
        have hT : Ints w6 (some ao) (intL (ax.take j)) := by
          have h := hO6.take j
          have e : (intL ax).take j = intL (ax.take j) := by simp [intL, List.map_take]
          rwa [e] at h
        have hD : Ints w6 (some { block := ao.block, off := ao.off + (j + 1) }) (intL (ax.drop (j + 1))) := by
          intro i v hv
          have hv2 : ((intL ax).map (Value.int .i64))[j + 1 + i]? = some v := by
            rw [← hv]
            unfold intL
            rw [List.getElem?_map, List.getElem?_map, List.getElem?_map, List.getElem?_map, List.getElem?_drop]
          obtain ⟨ad, he, hc⟩ := hO6 (j + 1 + i) v hv2
          injection he with he
          refine ⟨_, rfl, ?_⟩
          rw [← he, ← add_add] at hc
          have e : ao.add (j + 1) = { block := ao.block, off := ao.off + (j + 1) } := by simp [Addr.add]
          rwa [e] at hc
        have HK1 := Lib.hid (key (some ao) j co (ax.take j) (by rw [List.length_take, H.out.1.len]; omega) (by omega) (fun x h => List.mem_of_mem_take h) w6 (Below.refl _ _) hT)
        have HK2 := Lib.hid (fun w7 hb7 => key (some { block := ao.block, off := ao.off + (j + 1) }) (k - (j + 1)) (co - (j + 1)) (ax.drop (j + 1)) (by rw [List.length_drop, H.out.1.len]) (by omega) (fun x h => List.mem_of_mem_drop h) w7 hb7 hD)
        have hb16 : Below w1.heap.size w1 w6 := HR.out.2.trans (H6.out.2.mono hwsz)
        have HB := Lib.hid (And.intro hb06 (And.intro hb16 hz1))
        have hne : ¬ co = j + 1 := by omega
        have hle : j ≤ co := by omega
        have hle2 : j + 1 ≤ k := by omega
        clear hz1 hb06 hO6 hI6 hBb6 key hT hD hb16 y1 y2
        cases ht : (ax.take j).any (fun x => Mid.bf b x (ax.getD j 0))
        · have HA : Hid (bendAt ax b j = false) := Lib.hid (by unfold bendAt; rw [ht]; rfl)
          rw [ht] at HK1
          clear ht
          go_wp2_with fail
          refine HK1.out.mono ?_
          rintro e w8 ⟨rfl, hb8⟩
          have H8 := Lib.hid (HB.out.2.1.trans (hb8.mono HB.out.2.1.size))
          clear hb8
          go_wp2_with fail
          go_roundw
          case rel => exact ⟨j + 1, by omega, by omega, by go_num, (fun i hi => by
            by_cases e : i < j
            · exact HR.out.1 i e
            · have : i = j := by omega
              subst this; exact HA.out), H8.out⟩
          case measure => simp [intOf]; omega
        · rw [ht] at HK1
          go_wp2_with fail
          refine HK1.out.mono ?_
          rintro e w8 ⟨rfl, hb8⟩
          have HK3 := Lib.hid (HK2.out w8 hb8)
          have H8 := Lib.hid hb8
          clear hb8
          cases hd : (ax.drop (j + 1)).any (fun x => Mid.bf b x (ax.getD j 0))
          · have HA : Hid (bendAt ax b j = false) := Lib.hid (by unfold bendAt; rw [hd, Bool.and_false])
            rw [hd] at HK3
            clear ht hd
            go_wp2_with fail
            refine HK3.out.mono ?_
            rintro e w9 ⟨rfl, hb9⟩
            have H9 := Lib.hid (HB.out.2.1.trans (hb9.mono HB.out.2.1.size))
            clear hb9
            go_wp2_with fail
            go_roundw
            case rel => exact ⟨j + 1, by omega, by omega, by go_num, (fun i hi => by
              by_cases e : i < j
              · exact HR.out.1 i e
              · have : i = j := by omega
                subst this; exact HA.out), H9.out⟩
            case measure => simp [intOf]; omega
          · have HA : Hid (Mid.bendB ax b = true) := Lib.hid (bend_yes (j := j) (by rw [H.out.1.len]; omega) (by unfold bendAt; rw [ht, hd]; rfl))
            rw [hd] at HK3
            clear ht hd
            go_wp2_with fail
            refine HK3.out.mono ?_
            rintro e w9 ⟨rfl, hb9⟩
            have H9 := Lib.hid (HB.out.1.trans (hb9.mono HB.out.1.size))
            clear hb9
            go_wp2_with fail
            go_ret
            exact ⟨ret_bool HA.out.symm, H9.out⟩
    · have l1 : ¬ (j : Int) + 1 < (k : Int) := by omega
      have HA : Hid (Mid.bendB ax b = false) := Lib.hid (bend_no (j := j) (by rw [H.out.1.len]; omega) HR.out.1)
      go_wp2_with fail
      go_ret
      exact ⟨ret_bool HA.out.symm, H.out.2.2.1.trans (HR.out.2.mono (by have := H.out.2.2.2.2.1; omega))⟩
end Go.Proofs.Ytpoibiakfjkebaa
