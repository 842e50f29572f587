/- Laws and contracts that the proof of the market rows uses, part 1. -/
import Derived.WalkKit
import Derived.WalkSpells
import Derived.WalkLawsBesides
import Derived.Lib.Hide
import Derived.Deep.QuietTactic
import Derived.BigQuiet
import Derived.Handy
import Derived.Test.YtnljnjnmhbkdoaaProg
import Derived.Below
import Derived.StillTail
import Derived.StillTailTactics
namespace Go.Proofs.Ytnljnjnmhbkdoaa
open Go.RowKit

/- Words for memory that the walks of this seat share: a slice of ints, of fractions, of slices, read in a world; what a call may have turned. Plain lemmas, no program. -/

/-- The cells from A on hold these values. -/
def At (w : World) (A : Option Addr) (cs : List Value) : Prop := ∀ i v, cs[i]? = some v → ∃ ad, A = some ad ∧ w.cell? (ad.add i) = some v

/-- The slice at A reads as these ints. -/
def Ints (w : World) (A : Option Addr) (xs : List Int) : Prop := At w A (xs.map (Value.int .i64))

theorem add_block (a : Addr) (n : Nat) : (a.add n).block = a.block := by unfold Addr.add; split <;> rfl
theorem add_add (a : Addr) (i j : Nat) : (a.add i).add j = a.add (i + j) := by
  unfold Addr.add
  by_cases hi : i = 0 <;> by_cases hj : j = 0 <;> simp [hi, hj, Nat.add_assoc]

theorem lt_of_cell {w : World} {p : Addr} {v : Value} (h : w.cell? p = some v) : p.block < w.heap.size := by
  rcases Nat.lt_or_ge p.block w.heap.size with hlt | hge
  · exact hlt
  · simp [World.cell?, Array.getElem?_eq_none hge] at h

section
variable {w w' : World} {A : Option Addr} {cs : List Value} {xs : List Int}
theorem At.keep (h : At w A cs) (hk : ∀ p v, w.cell? p = some v → w'.cell? p = some v) : At w' A cs :=
  fun i v hv => let ⟨ad, e, hc⟩ := h i v hv; ⟨ad, e, hk _ _ hc⟩
theorem At.below (h : At w A cs) (hb : Below w.heap.size w w') : At w' A cs :=
  h.keep fun _ _ hc => (hb.cell (lt_of_cell hc)).trans hc
theorem At.nil : At w A [] := fun i v h => by simp at h
theorem At.some_ (h : At w A cs) (hn : 0 < cs.length) : ∃ ad, A = some ad ∧ ad.block < w.heap.size ∧ ∀ i v, cs[i]? = some v → w.cell? (ad.add i) = some v := by
  obtain ⟨ad, rfl, hc⟩ := h 0 _ (List.getElem?_eq_getElem hn)
  refine ⟨ad, rfl, ?_, fun i v hv => ?_⟩
  · have := lt_of_cell hc; rwa [add_block] at this
  · obtain ⟨ad', e, hc'⟩ := h i v hv
    injection e with e; subst e; exact hc'
theorem At.some2 {ad : Addr} (h : At w (some ad) cs) : ∀ i v, cs[i]? = some v → w.cell? (ad.add i) = some v := by
  intro i v hv
  obtain ⟨ad', e, hc'⟩ := h i v hv
  injection e with e; subst e; exact hc'
theorem At.new {o : Obj} {ad : Addr} (h : ∀ i v, cs[i]? = some v → w.cell? (ad.add i) = some v) : ∀ i v, cs[i]? = some v → (w.alloc o).cell? (ad.add i) = some v :=
  fun i v hv => (World.cell?_alloc_lt _ _ _ (lt_of_cell (h i v hv))).trans (h i v hv)
theorem Ints.below (h : Ints w A xs) (hb : Below w.heap.size w w') : Ints w' A xs := At.below h hb
theorem Ints.some_ (h : Ints w A xs) (hn : 0 < xs.length) : ∃ ad, A = some ad ∧ ad.block < w.heap.size ∧ ∀ i x, xs[i]? = some x → w.cell? (ad.add i) = some (.int .i64 x) := by
  obtain ⟨ad, e, hb, hc⟩ := At.some_ h (by simpa using hn)
  exact ⟨ad, e, hb, fun i x hx => hc i _ (by simp [hx])⟩
theorem Ints.nil : Ints w A [] := At.nil
theorem Ints.mk_ {ad : Addr} (h : ∀ i x, xs[i]? = some x → w.cell? (ad.add i) = some (.int .i64 x)) : Ints w (some ad) xs := by
  intro i v hv
  simp only [List.getElem?_map, Option.map_eq_some_iff] at hv
  obtain ⟨x, hx, rfl⟩ := hv
  exact ⟨ad, rfl, h i x hx⟩
theorem At.of_own {base e size n : Nat} {c : Nat} (h : w.ownsRow base e size (.slice A n c) n cs) : At w A cs := by
  intro i v hv
  have hlt : i < cs.length := (List.getElem?_eq_some_iff.1 hv).1
  rcases h.2 with ⟨he, hn⟩ | ⟨g, cap, cur, he, _⟩
  · subst hn; have := h.1; omega
  · injection he with he
    subst he
    exact ⟨_, rfl, h.cells (g := g) rfl i v hv⟩
end

theorem below_drewN {B : Nat} {a w : World} (h : Below B a w) (n : Nat) : Below B a (w.drewN n) := ⟨h.os, h.tape, h.output, h.size, h.block⟩

/-- Below block number B, but for the blocks of S, the world w' is as w was. -/
structure Kept (B : Nat) (S : List Nat) (w w' : World) : Prop where
  os : w'.os = w.os
  tape : w'.tape = w.tape
  output : w'.output = w.output
  size : w.heap.size ≤ w'.heap.size
  block : ∀ k, k < B → k ∉ S → w'.heap[k]? = w.heap[k]?
section
variable {B B' : Nat} {S S' : List Nat} {a b w w' : World}
theorem Kept.refl (B : Nat) (S : List Nat) (w : World) : Kept B S w w := ⟨rfl, rfl, rfl, Nat.le_refl _, fun _ _ _ => rfl⟩
theorem Kept.trans (h : Kept B S a b) (k : Kept B S b w) : Kept B S a w :=
  ⟨k.os.trans h.os, k.tape.trans h.tape, k.output.trans h.output, Nat.le_trans h.size k.size, fun i hi hn => (k.block i hi hn).trans (h.block i hi hn)⟩
theorem Kept.mono (h : Kept B S w w') (hB : B' ≤ B) (hS : ∀ x ∈ S, x ∈ S' ∨ B' ≤ x) : Kept B' S' w w' :=
  ⟨h.os, h.tape, h.output, h.size, fun k hk hn => h.block k (Nat.lt_of_lt_of_le hk hB) fun hm => (hS k hm).elim hn (fun hh => by omega)⟩
theorem Kept.of_below (h : Below B w w') (S : List Nat) : Kept B S w w' := ⟨h.os, h.tape, h.output, h.size, fun k hk _ => h.block k hk⟩
theorem Kept.below (h : Kept B [] w w') : Below B w w' := ⟨h.os, h.tape, h.output, h.size, fun k hk => h.block k hk (by simp)⟩
theorem Kept.drew (h : Kept B S a w) : Kept B S a w.drew := ⟨h.os, h.tape, h.output, h.size, h.block⟩
theorem Kept.drewN (h : Kept B S a w) (n : Nat) : Kept B S a (w.drewN n) := ⟨h.os, h.tape, h.output, h.size, h.block⟩
theorem Kept.alloc (h : Kept B S a w) (hB : B ≤ w.heap.size) (o : Obj) : Kept B S a (w.alloc o) :=
  h.trans ⟨rfl, rfl, rfl, by simp, fun k hk _ => Below.heap_alloc _ _ _ (by omega)⟩
theorem Kept.setCell (h : Kept B S a w) {p : Addr} (hp : p.block ∈ S ∨ B ≤ p.block) (u : Value) : Kept B S a (w.setCell p u) :=
  h.trans ⟨rfl, rfl, rfl, by simp [World.setCell], fun k hk hn => Below.heap_setCell _ _ _ _ (by rintro rfl; rcases hp with hp | hp; exact hn hp; omega)⟩
theorem Kept.grown {row : Option Nat} (h : Kept B S a w) (hg : w.grownBy w' row) (hB : B ≤ w.heap.size) (hr : ∀ k, row = some k → k ∈ S ∨ B ≤ k) : Kept B S a w' :=
  h.trans ⟨hg.os, hg.tape, hg.output, hg.size, fun k hk hn => hg.block k (by omega) (fun e => by rcases hr k e.symm with h1 | h1; exact hn h1; omega)⟩
theorem Kept.cell (h : Kept B S w w') {p : Addr} (hp : p.block < B) (hn : p.block ∉ S) : w'.cell? p = w.cell? p := World.cell?_of_block (w := w) (h.block p.block hp hn)
end

/-- Block g is just these cells of type t, none frozen. -/
def Blk (w : World) (g : Nat) (t : TypeId) (cs : Array Value) : Prop := w.heap[g]? = some (.cells cs t (0, 0))
section
variable {w w' : World} {g : Nat} {t : TypeId} {cs : Array Value}
theorem Blk.lt (h : Blk w g t cs) : g < w.heap.size := lt_of_block h
theorem Blk.cell (h : Blk w g t cs) (i : Nat) : w.cell? ⟨g, i, none⟩ = cs[i]? := cell_of_row w g i cs t (0, 0) h
theorem Blk.frozen (h : Blk w g t cs) (i : Nat) : w.frozen? ⟨g, i, none⟩ = false := by
  unfold Blk at h
  simp [World.frozen?, h]
theorem Blk.new (w : World) (t : TypeId) (cs : Array Value) (hg : g = w.heap.size) : Blk (w.alloc (.cells cs t)) g t cs := by subst hg; exact heap_alloc_new w _
theorem Blk.drewN (h : Blk w g t cs) (n : Nat) : Blk (w.drewN n) g t cs := h
theorem Blk.alloc (h : Blk w g t cs) (o : Obj) : Blk (w.alloc o) g t cs := (Below.heap_alloc w o g h.lt).trans h
theorem Blk.set_ (h : Blk w g t cs) (i : Nat) (u : Value) : Blk (w.setCell ⟨g, i, none⟩ u) g t (cs.setIfInBounds i u) := by
  unfold Blk at h ⊢
  simp [World.setCell, Array.getElem?_modify, h]
theorem Blk.far (h : Blk w g t cs) {p : Addr} (hp : g ≠ p.block) (u : Value) : Blk (w.setCell p u) g t cs := (Below.heap_setCell w p u g hp).trans h
theorem Blk.below {B : Nat} (h : Blk w g t cs) (hb : Below B w w') (hg : g < B) : Blk w' g t cs := (hb.block g hg).trans h
theorem Blk.kept {B : Nat} {S : List Nat} (h : Blk w g t cs) (hb : Kept B S w w') (hg : g < B) (hn : g ∉ S) : Blk w' g t cs := (hb.block g hg hn).trans h
theorem Blk.grown {row : Option Nat} (h : Blk w g t cs) (hb : w.grownBy w' row) (hg : some g ≠ row) : Blk w' g t cs := (hb.block g h.lt hg).trans h
theorem Blk.at1 {a : Value} (h : Blk w g t #[a]) : w.cell? ⟨g, 0, none⟩ = some a ∧ w.frozen? ⟨g, 0, none⟩ = false := ⟨h.cell 0, h.frozen 0⟩
theorem Blk.at2 {a b : Value} (h : Blk w g t #[a, b]) : w.cell? ⟨g, 0, none⟩ = some a ∧ w.cell? ⟨g, 1, none⟩ = some b ∧ w.frozen? ⟨g, 0, none⟩ = false ∧ w.frozen? ⟨g, 1, none⟩ = false :=
  ⟨h.cell 0, h.cell 1, h.frozen 0, h.frozen 1⟩
theorem Blk.at_ (h : Blk w g t cs) : At w (some ⟨g, 0, none⟩) cs.toList := by
  intro i v hv
  refine ⟨_, rfl, ?_⟩
  have hc := h.cell i
  rw [Array.getElem?_toList] at hv
  rw [hv] at hc
  rw [← hc]
  unfold Addr.add
  split
  · rename_i h0; subst h0; rfl
  · simp
theorem Blk.ints {xs : List Int} (h : Blk w g t (xs.map (Value.int .i64)).toArray) : Ints w (some ⟨g, 0, none⟩) xs := by simpa [Ints] using h.at_
theorem Blk.ne_ {g' : Nat} {t' : TypeId} {cs' : Array Value} (h : Blk w g t cs) (h' : Blk w g' t' cs') (hne : t ≠ t') : g ≠ g' := by
  rintro rfl
  unfold Blk at h h'
  rw [h] at h'
  injection h' with h'
  injection h' with _ ht
  exact hne ht
end

/-- The cells of a row of ints. -/
def arr (xs : List Int) : Array Value := (xs.map (Value.int .i64)).toArray
theorem arr_size (xs : List Int) : (arr xs).size = xs.length := by simp [arr]
theorem arr_get (xs : List Int) (i : Nat) : (arr xs)[i]? = (xs[i]?).map (Value.int .i64) := by simp [arr]
theorem arr_set (xs : List Int) (i : Nat) (y : Int) : (arr xs).setIfInBounds i (.int .i64 y) = arr (xs.set i y) := by
  apply Array.ext'
  simp [arr, List.map_set]
theorem blk_ints {w : World} {g : Nat} {t : TypeId} {xs : List Int} (h : Blk w g t (arr xs)) : Ints w (some ⟨g, 0, none⟩) xs := Blk.ints h
theorem arr_zeros (n : Nat) : madeCells (Value.int .i64 0).cells (n * 1) = arr (List.replicate n 0) := by
  apply Array.ext'
  show (madeCells #[Value.int .i64 0] (n * 1)).toList = _
  rw [toList_madeCells_one]; simp [arr]

/-- The first place of a number in a list; -1: none. -/
def idx (xs : List Int) (y : Int) : Int := if y ∈ xs then (xs.idxOf y : Nat) else -1
def has (xs : List Int) (y : Int) : Bool := decide (y ∈ xs)
theorem idx_nonneg (xs : List Int) (y : Int) : decide (0 ≤ idx xs y) = has xs y := by
  unfold idx has; by_cases h : y ∈ xs <;> simp [h]
theorem idx_bd (xs : List Int) (y : Int) : -1 ≤ idx xs y ∧ idx xs y ≤ xs.length := by
  unfold idx
  split
  · have := List.idxOf_le_length (a := y) (l := xs); omega
  · omega
theorem take_succ' {xs : List Int} {k : Nat} {x : Int} (h : xs[k]? = some x) : xs.take (k + 1) = xs.take k ++ [x] := by
  rw [List.take_add_one, h]; rfl
theorem idx_hit {xs : List Int} {y : Int} {k : Nat} (hx : xs[k]? = some y) (hn : y ∉ xs.take k) : idx xs y = k := by
  have hk : k < xs.length := (List.getElem?_eq_some_iff.1 hx).1
  have he : xs[k] = y := (List.getElem?_eq_some_iff.1 hx).2
  have hm : y ∈ xs := by rw [← he]; exact List.getElem_mem hk
  unfold idx
  rw [if_pos hm]
  have h1 : xs = xs.take k ++ (y :: xs.drop (k + 1)) := by rw [← he, ← List.drop_eq_getElem_cons hk, List.take_append_drop]
  have : xs.idxOf y = k := by
    conv => lhs; rw [h1]
    rw [List.idxOf_append, if_neg hn]
    simp only [List.idxOf_cons, beq_self_eq_true, cond_true, List.length_take]
    omega
  rw [this]
theorem idx_miss {xs : List Int} {y : Int} (hn : y ∉ xs) : idx xs y = -1 := by unfold idx; rw [if_neg hn]
theorem nmem_take_succ {xs : List Int} {k : Nat} {x y : Int} (h : xs[k]? = some x) (hn : y ∉ xs.take k) (hne : y ≠ x) : y ∉ xs.take (k + 1) := by
  rw [take_succ' h]; simp [hn, hne]

def lmin : List Int → Int
  | [] => 0
  | x :: xs => xs.foldl min x
def lmax : List Int → Int
  | [] => 0
  | x :: xs => xs.foldl max x
theorem foldl_min_le (l : List Int) (a : Int) : l.foldl min a ≤ a ∧ ∀ x ∈ l, l.foldl min a ≤ x := by
  induction l generalizing a with
  | nil => simp
  | cons y l ih =>
    simp only [List.foldl_cons, List.mem_cons, forall_eq_or_imp]
    have := ih (min a y)
    exact ⟨by omega, by omega, this.2⟩
theorem foldl_min_mem (l : List Int) (a : Int) : l.foldl min a = a ∨ l.foldl min a ∈ l := by
  induction l generalizing a with
  | nil => simp
  | cons y l ih =>
    simp only [List.foldl_cons, List.mem_cons]
    rcases ih (min a y) with h | h
    · rw [h]; omega
    · exact .inr (.inr h)
theorem foldl_max_ge (l : List Int) (a : Int) : a ≤ l.foldl max a ∧ ∀ x ∈ l, x ≤ l.foldl max a := by
  induction l generalizing a with
  | nil => simp
  | cons y l ih =>
    simp only [List.foldl_cons, List.mem_cons, forall_eq_or_imp]
    have := ih (max a y)
    exact ⟨by omega, by omega, this.2⟩
theorem foldl_max_mem (l : List Int) (a : Int) : l.foldl max a = a ∨ l.foldl max a ∈ l := by
  induction l generalizing a with
  | nil => simp
  | cons y l ih =>
    simp only [List.foldl_cons, List.mem_cons]
    rcases ih (max a y) with h | h
    · rw [h]; omega
    · exact .inr (.inr h)
theorem lmin_ge {xs : List Int} (h : xs ≠ []) (m : Int) : m ≤ lmin xs ↔ ∀ x ∈ xs, m ≤ x := by
  cases xs with
  | nil => exact absurd rfl h
  | cons x xs =>
    have h1 := foldl_min_le xs x
    have h2 := foldl_min_mem xs x
    simp only [lmin, List.mem_cons, forall_eq_or_imp]
    constructor
    · intro hm; exact ⟨by omega, fun y hy => by have := h1.2 y hy; omega⟩
    · rintro ⟨ha, hb⟩
      rcases h2 with h2 | h2
      · omega
      · exact hb _ h2
theorem lmax_le {xs : List Int} (h : xs ≠ []) (m : Int) : lmax xs ≤ m ↔ ∀ x ∈ xs, x ≤ m := by
  cases xs with
  | nil => exact absurd rfl h
  | cons x xs =>
    have h1 := foldl_max_ge xs x
    have h2 := foldl_max_mem xs x
    simp only [lmax, List.mem_cons, forall_eq_or_imp]
    constructor
    · intro hm; exact ⟨by omega, fun y hy => by have := h1.2 y hy; omega⟩
    · rintro ⟨ha, hb⟩
      rcases h2 with h2 | h2
      · omega
      · exact hb _ h2
theorem lmin_take {xs : List Int} {k : Nat} {x : Int} (h : xs[k]? = some x) (hk : 0 < k) : lmin (xs.take (k + 1)) = min (lmin (xs.take k)) x := by
  rw [take_succ' h]
  have hl : k < xs.length := (List.getElem?_eq_some_iff.1 h).1
  cases hx : xs.take k with
  | nil => have h0 : (xs.take k).length = k := by simp; omega
           rw [hx] at h0; simp at h0; omega
  | cons a l => simp [lmin, List.foldl_append]
theorem lmax_take {xs : List Int} {k : Nat} {x : Int} (h : xs[k]? = some x) (hk : 0 < k) : lmax (xs.take (k + 1)) = max (lmax (xs.take k)) x := by
  rw [take_succ' h]
  have hl : k < xs.length := (List.getElem?_eq_some_iff.1 h).1
  cases hx : xs.take k with
  | nil => have h0 : (xs.take k).length = k := by simp; omega
           rw [hx] at h0; simp at h0; omega
  | cons a l => simp [lmax, List.foldl_append]
theorem ret_int {k : IntKind} {a b : Int} (h : a = b) : Ending.returned (.int k a) = .returned (.int k b) := by rw [h]
theorem val_int {k : IntKind} {a b : Int} (h : a = b) : Value.int k a = .int k b := by rw [h]
theorem ret_bool {a b : Bool} (h : a = b) : Ending.returned (.bool a) = .returned (.bool b) := by rw [h]

/- Contracts of the slice functions of Go's library that this seat's code calls: Index, Contains, Min, Max over ints. -/


/- Contract: slices.Clone of ints. -/

theorem info_int : (Try.prog.info? 3).map (fun i => (i.zero, i.size, i.bytes)) = some (some (.int .i64 0), 1, 8) := by kernel_rfl

theorem ints_one (xs : List Int) : ∀ u ∈ xs.map (Value.int .i64), u.oneCell' = true := ints_oneCell _ _

/-- A value that the call owns, as a slice. -/
theorem own_form {w : World} {base e size n : Nat} {v : Value} {xs : List Value} (h : w.ownsRow base e size v n xs) : ∃ A c, v = .slice A n c ∧ n ≤ c ∧ c ≤ 9223372036854775807 ∧ (A = none → n = 0 ∧ c = 0) := by
  rcases h.2 with ⟨rfl, rfl⟩ | ⟨g, cap, cur, rfl, _, _, h1, h2, _⟩
  · exact ⟨none, 0, rfl, by omega, by omega, fun _ => ⟨rfl, rfl⟩⟩
  · exact ⟨_, cap, rfl, h1, by unfold maxLen at h2; omega, fun h => by cases h⟩

set_option maxHeartbeats 400000 in
theorem clone_any (A : Option Addr) (n cap : Nat) (xs : List Int) (w : World) (hl : xs.length = n) (hm : n ≤ 1000000000) (h : Ints w A xs) :
    Calls Try.prog 30 #[.slice A n cap] w fun e w' => ∃ A' c, e = .returned (.slice A' n c) ∧ w'.ownsRow w.heap.size 3 1 (.slice A' n c) n (xs.map (Value.int .i64)) ∧ Below w.heap.size w w' := by
  have qT : ∀ (w : World) (a : Option Addr) (n c n' c' : Nat), (binOp .eql 22 (.slice a n c) (.slice none n' c')).run Try.prog w = .ok (.bool a.isNone) w := fun w a n c n' c' => Lib.run_eql_slice_nil w _ _ a n c n' c' Try.underlying22
  obtain ⟨i0, hi, hz0, hz1, hz2⟩ := info_parts info_int
  rcases A with _ | ad
  · have h0 : xs = [] := by
      cases xs with
      | nil => rfl
      | cons x l => obtain ⟨ad, e, _⟩ := h 0 (.int .i64 x) rfl; cases e
    subst h0
    obtain rfl : n = 0 := by simpa using hl.symm
    clear h hl
    go_enter Try.func30, Try.ntmps30
    go_wp2
    go_ret
    exact ⟨none, 0, rfl, World.ownsRow_nil _ _ _ _, Below.refl _ _⟩
  · have HL := Lib.hid hl
    have HC := Lib.hid (At.some2 h)
    clear hl h
    go_enter Try.func30, Try.ntmps30
    go_wp2_with (at_builtin; refine wpList_append_own _ rfl _ _ 22 rfl w.heap.size 3 i0 (.int .i64 0) 1 8 Try.underlying22 hi hz0 hz1 hz2 rfl (by decide) _ 0 [] rfl (World.ownsRow_made w #[] 0 (Nat.le_refl _) (by decide) rfl) ad n cap (xs.map (Value.int .i64)) rfl ?c1 ?c2 ?c3 ?c4 ?c5 ?c6 ?_)
    case c1 => simpa using HL.out
    case c2 => exact At.new HC.out
    case c3 => exact ints_one xs
    case c4 => unfold maxLen; omega
    case c5 => omega
    case c6 => go_size
    intro v' w1 hown hgrow _
    obtain ⟨A', c, rfl, _⟩ := own_form hown
    go_wp2
    go_ret
    refine ⟨A', c, by simp, by simpa using hown, ?_⟩
    exact (((Below.refl _ _).alloc (Nat.le_refl _) _)).grown hgrow (by go_size) (by intro k hk; simp [Value.ownBlock] at hk; omega)

theorem Ints.take {w : World} {A : Option Addr} {xs : List Int} (h : Ints w A xs) (k : Nat) : Ints w A (xs.take k) := by
  intro i v hv
  refine h i v ?_
  rw [List.map_take] at hv
  rw [List.getElem?_take] at hv
  split at hv
  · exact hv
  · cases hv

/- Appending one element to a slice that the call owns, as one law for every element type. -/

/-- A slice type of the program: its element's type, zero value, cells and bytes. -/
structure STy (T e : TypeId) (z : Value) (size bytes : Nat) : Prop where
  ht : Try.prog.underlying T = some (.slice e)
  inf : (Try.prog.info? e).map (fun i => (i.zero, i.size, i.bytes)) = some (some z, size, bytes)
  hzs : z.cells.size = size
  hsz : 0 < size
  hby : bytes ≤ 100

theorem sty_int : STy 22 3 (.int .i64 0) 1 8 := ⟨Try.underlying22, info_int, rfl, by decide, by decide⟩

/-- What is owned stays owned while older or other blocks turn, and under a smaller base. -/
theorem own_mono {w : World} {base base' e size n : Nat} {v : Value} {xs : List Value} (h : w.ownsRow base e size v n xs) (hb : base' ≤ base) : w.ownsRow base' e size v n xs := by
  obtain ⟨h1, h2⟩ := h
  refine ⟨h1, ?_⟩
  rcases h2 with h2 | ⟨g, cap, cur, hv, a1, a3⟩
  · exact .inl h2
  · exact .inr ⟨g, cap, cur, hv, by omega, a3⟩
theorem own_below {w w' : World} {base e size n : Nat} {v : Value} {xs : List Value} (h : w.ownsRow base e size v n xs) (hb : Below w.heap.size w w') : w'.ownsRow base e size v n xs := by
  obtain ⟨h1, h2⟩ := h
  refine ⟨h1, ?_⟩
  rcases h2 with h2 | ⟨g, cap, cur, hv, a1, a2, a3⟩
  · exact .inl h2
  · exact .inr ⟨g, cap, cur, hv, a1, (hb.block g (lt_of_block a2)).trans a2, a3⟩

theorem own_some {w : World} {base e n c : Nat} {A : Option Addr} {xs : List Value} (h : w.ownsRow base e 1 (.slice A n c) n xs) (hn : 0 < n) : ∃ g, A = some ⟨g, 0, none⟩ ∧ base ≤ g ∧ g < w.heap.size := by
  rcases h.2 with ⟨_, h⟩ | ⟨g, cap, cur, hv, h1, h2, _⟩
  · omega
  · injection hv with e1
    exact ⟨g, e1, h1, lt_of_block h2⟩

theorem wp_app1 {T e : TypeId} {z : Value} {size bytes : Nat} (ty : STy T e z size bytes) {o : Oper} {a : Act} {K : Act → World → Prop} {Q : Exit → Act → World → Prop} {w : World}
    (s x : Operand) (ho : o.op = .call { callee := .builtin .append, args := #[s, x], argTypes := #[T, T] })
    (base : Nat) (A : Option Addr) (n k : Nat) (xs : List Value) (cs : Array Value) (hcs : cs.size = size) (h1 : ∀ u ∈ cs.toList, u.oneCell' = true)
    (hs : a.eval s = .slice A n k) (hown : w.ownsRow base e size (.slice A n k) n xs) (hx : a.eval x = .slice (some ⟨w.heap.size, 0, none⟩) 1 1)
    (hn : n ≤ 1000000) (hb : base ≤ w.heap.size)
    (h : ∀ (A' : Option Addr) (k' : Nat) (w' : World), w'.ownsRow base e size (.slice A' (n + 1) k') (n + 1) (xs ++ cs.toList) → w.grownBy w' (Value.slice A n k).ownBlock → Below base w w' → n + 1 ≤ k' → k' ≤ 9223372036854775807 →
      K (a.put o.dst (.slice A' (n + 1) k')) w') : o.wp Try.prog a (w.alloc (.cells cs e)) K Q := by
  obtain ⟨i0, hi, hz0, hz1, hz2⟩ := info_parts ty.inf
  refine wp_append_own _ s x T ho base e i0 z size bytes ty.ht hi hz0 hz1 hz2 ty.hzs ty.hsz _ n xs hs (hown.alloc _) ⟨w.heap.size, 0, none⟩ 1 1 cs.toList hx (by simpa using hcs) ?_ h1 (by unfold maxLen; omega) ?_ (by go_size) ?_
  · intro j u hu
    have hB := (Blk.new w e cs rfl).at_
    exact (At.some2 hB) j u hu
  · have h2 := ty.hby
    calc (n + 1) * bytes ≤ 1000001 * 100 := Nat.mul_le_mul (by omega) h2
      _ ≤ _ := by decide
  · intro v' w' hown' hg hv
    obtain ⟨A', k', rfl, hk, hk', _⟩ := own_form hown'
    have hg' : w.grownBy w' (Value.slice A n k).ownBlock :=
      ⟨hg.os, hg.tape, hg.output, Nat.le_trans (by simp) hg.size, fun b hb hne => (hg.block b (Nat.lt_of_lt_of_le hb (by simp)) hne).trans (Below.heap_alloc w _ b hb)⟩
    refine h A' k' w' hown' hg' ?_ hk hk'
    refine ⟨hg'.os, hg'.tape, hg'.output, hg'.size, fun b hb' => hg'.block b (by omega) fun he => ?_⟩
    have := (hown.lt b he.symm).1
    omega

theorem app1 {T e : TypeId} {z : Value} {size bytes : Nat} (ty : STy T e z size bytes) {ops : Array Oper} {rest : List Oper} {o : Oper} {a : Act} {Q : Exit → Act → World → Prop} {w : World}
    (hgd : o.guard = none) (s x : Operand) (ho : o.op = .call { callee := .builtin .append, args := #[s, x], argTypes := #[T, T] })
    (base : Nat) (A : Option Addr) (n k : Nat) (xs : List Value) (cs : Array Value) (hcs : cs.size = size) (h1 : ∀ u ∈ cs.toList, u.oneCell' = true)
    (hs : a.eval s = .slice A n k) (hown : w.ownsRow base e size (.slice A n k) n xs) (hx : a.eval x = .slice (some ⟨w.heap.size, 0, none⟩) 1 1)
    (hn : n ≤ 1000000) (hb : base ≤ w.heap.size)
    (h : ∀ (A' : Option Addr) (k' : Nat) (w' : World), w'.ownsRow base e size (.slice A' (n + 1) k') (n + 1) (xs ++ cs.toList) → w.grownBy w' (Value.slice A n k).ownBlock → Below base w w' → n + 1 ≤ k' → k' ≤ 9223372036854775807 →
      wpList Try.prog ops Q rest (a.put o.dst (.slice A' (n + 1) k')) w') : wpList Try.prog ops Q (o :: rest) a (w.alloc (.cells cs e)) :=
  wpList_plain hgd fun _ hK => wp_app1 ty s x ho base A n k xs cs hcs h1 hs hown hx hn hb fun A' k' w' a1 a2 a3 a4 a5 => hK _ _ (h A' k' w' a1 a2 a3 a4 a5)

/-- The same as one step of a region that draws its order. -/
theorem step_app1 {T e : TypeId} {z : Value} {size bytes : Nat} (ty : STy T e z size bytes) {ops : Array Oper} {o : Oper} {a : Act} {K : Act → World → Prop} {Q : Exit → Act → World → Prop} {E : Prop} {w : World}
    (hgd : o.guard = none) (s x : Operand) (ho : o.op = .call { callee := .builtin .append, args := #[s, x], argTypes := #[T, T] })
    (base : Nat) (A : Option Addr) (n k : Nat) (xs : List Value) (cs : Array Value) (hcs : cs.size = size) (h1 : ∀ u ∈ cs.toList, u.oneCell' = true)
    (hs : a.eval s = .slice A n k) (hown : w.ownsRow base e size (.slice A n k) n xs) (hx : a.eval x = .slice (some ⟨w.heap.size, 0, none⟩) 1 1)
    (hn : n ≤ 1000000) (hb : base ≤ w.heap.size)
    (h : ∀ (A' : Option Addr) (k' : Nat) (w' : World), w'.ownsRow base e size (.slice A' (n + 1) k') (n + 1) (xs ++ cs.toList) → w.grownBy w' (Value.slice A n k).ownBlock → Below base w w' → n + 1 ≤ k' → k' ≤ 9223372036854775807 →
      K (a.put o.dst (.slice A' (n + 1) k')) w') : if Region.wanted o (yielded ops a.tmps) = true then Oper.wp Try.prog o a (w.alloc (.cells cs e)) K Q else E := by
  have hw : Region.wanted o (yielded ops a.tmps) = true := by simp [Region.wanted, hgd]
  rw [if_pos hw]
  exact wp_app1 ty s x ho base A n k xs cs hcs h1 hs hown hx hn hb h

/- More laws of append: one element to a slice without room that need not be owned (always a new row), and many elements to an owned one. -/

theorem run_fresh {T e : TypeId} {z : Value} {size bytes : Nat} (ty : STy T e z size bytes) (rt : TypeId) (w : World) (A : Option Addr) (n : Nat) (olds : List Value) (hlo : olds.length = n * size) (hA : At w A olds) (h0 : A = none → n = 0)
    (a : Addr) (m c : Nat) (news : List Value) (hl : news.length = m * size) (hnews : ∀ j u, news[j]? = some u → w.cell? (a.add j) = some u) (hm : 0 < m) (hn : n + m ≤ 1000000) (hd : n ≠ 0 → ∃ ad, A = some ad) :
    ∃ (k' : Nat) (w' : World), (Builtin.append_ #[T, T] rt #[.slice A n n, .slice (some a) m c]).run Try.prog w = .ok (.slice (some ⟨w.heap.size, 0, none⟩) (n + m) k') w' ∧
      w'.ownsRow w.heap.size e size (.slice (some ⟨w.heap.size, 0, none⟩) (n + m) k') (n + m) (olds ++ news) ∧ Below w.heap.size w w' ∧ n + m ≤ k' ∧ k' ≤ 9223372036854775807 := by
  obtain ⟨i, hi, hz0, hz1, hz2⟩ := info_parts ty.inf
  subst hz1
  subst hz2
  have hlen : (olds ++ news).length = (n + m) * i.size := by rw [List.length_append, hlo, hl, Nat.add_mul]
  have hby := ty.hby
  have hbytes : (n + m) * i.bytes ≤ 140737488355328 := by
    calc (n + m) * i.bytes ≤ 1000000 * 100 := Nat.mul_le_mul hn hby
      _ ≤ _ := by decide
  have grown : ∀ (old : Nat), old < n + m →
      (w.drew.alloc (.cells (olds.toArray ++ news.toArray ++ Builtin.zeroCells z.cells (grownCap w (n + m) old e - (n + m))) e)).ownsRow w.heap.size e i.size
        (.slice (some ⟨w.heap.size, 0, none⟩) (n + m) (grownCap w (n + m) old e)) (n + m) (olds ++ news) ∧
      Below w.heap.size w (w.drew.alloc (.cells (olds.toArray ++ news.toArray ++ Builtin.zeroCells z.cells (grownCap w (n + m) old e - (n + m))) e)) ∧ n + m ≤ grownCap w (n + m) old e ∧ grownCap w (n + m) old e ≤ 9223372036854775807 := by
    intro old ho
    have hge := grownCap_ge w (n + m) old e
    have hcm : grownCap w (n + m) old e ≤ maxLen := grownCap_le_maxLen w (n + m) old e (by unfold maxLen; omega)
    refine ⟨⟨hlen, .inr ⟨w.heap.size, _, _, rfl, Nat.le_refl _, heap_alloc_new w.drew _, hge, hcm, ?_, ?_⟩⟩, ((Below.refl _ _).drew).alloc (by simp) _, hge, by unfold maxLen at hcm; omega⟩
    · simp only [Array.size_append, List.size_toArray, size_zeroCells, ty.hzs, hlo, hl, ← Nat.add_mul]
      rw [Nat.add_sub_cancel' hge]
    · simp only [Array.toList_append, List.append_assoc]
      rw [← List.append_assoc, ← hlen]
      exact List.take_left
  cases A with
  | none =>
    obtain rfl : n = 0 := h0 rfl
    have hx : olds = [] := List.eq_nil_of_length_eq_zero (by simpa using hlo)
    subst hx
    have hr := run_append_nil (P := Try.prog) w T rt e i z ty.ht hi hz0 a m c news hl hnews hm (by omega) (by have hb := hbytes; simp only [Nat.zero_add] at hb; omega)
    have hgr := grown 0 (by omega)
    simp only [Nat.zero_add, List.nil_append, Array.empty_append] at hgr ⊢
    exact ⟨_, _, hr, hgr⟩
  | some b =>
    have hr := run_append_grow (P := Try.prog) w T rt e i z ty.ht hi hz0 b n n olds hlo (At.some2 hA) a m c news hl hnews (by omega) (by omega) (growslice_fits (by omega) hbytes)
    exact ⟨_, _, hr, grown n (by omega)⟩

theorem wp_fresh {T e : TypeId} {z : Value} {size bytes : Nat} (ty : STy T e z size bytes) {o : Oper} {a : Act} {K : Act → World → Prop} {Q : Exit → Act → World → Prop} {w : World}
    (s x : Operand) (ho : o.op = .call { callee := .builtin .append, args := #[s, x], argTypes := #[T, T] })
    (A : Option Addr) (n : Nat) (olds : List Value) (hlo : olds.length = n * size) (hA : At w A olds) (h0 : A = none → n = 0) (hd : n ≠ 0 → ∃ ad, A = some ad)
    (ad : Addr) (m c : Nat) (news : List Value) (hl : news.length = m * size) (hnews : ∀ j u, news[j]? = some u → w.cell? (ad.add j) = some u)
    (hs : a.eval s = .slice A n n) (hx : a.eval x = .slice (some ad) m c) (hm : 0 < m) (hn : n + m ≤ 1000000)
    (h : ∀ (k' : Nat) (w' : World), w'.ownsRow w.heap.size e size (.slice (some ⟨w.heap.size, 0, none⟩) (n + m) k') (n + m) (olds ++ news) → Below w.heap.size w w' → n + m ≤ k' → k' ≤ 9223372036854775807 →
      K (a.put o.dst (.slice (some ⟨w.heap.size, 0, none⟩) (n + m) k')) w') : o.wp Try.prog a w K Q := by
  obtain ⟨k', w', hr, h2, h3, h4, h5⟩ := run_fresh ty o.type w A n olds hlo hA h0 ad m c news hl hnews hm hn hd
  unfold Oper.wp execOp
  simp only [ho, resolve, invoke, builtin, Sem.run_bind, Sem.run_pure, Result.andThen_ok, List.map_toArray, List.map_cons, List.map_nil, hs, hx, hr]
  exact h k' w' h2 h3 h4 h5

/-- Many elements to an owned slice. -/
theorem wp_appN {T e : TypeId} {z : Value} {size bytes : Nat} (ty : STy T e z size bytes) {o : Oper} {a : Act} {K : Act → World → Prop} {Q : Exit → Act → World → Prop} {w : World}
    (s x : Operand) (ho : o.op = .call { callee := .builtin .append, args := #[s, x], argTypes := #[T, T] })
    (base : Nat) (A : Option Addr) (n k : Nat) (xs : List Value)
    (hs : a.eval s = .slice A n k) (hown : w.ownsRow base e size (.slice A n k) n xs)
    (ad : Addr) (m c : Nat) (news : List Value) (hl : news.length = m * size) (hnews : ∀ j u, news[j]? = some u → w.cell? (ad.add j) = some u) (h1 : ∀ u ∈ news, u.oneCell' = true) (hx : a.eval x = .slice (some ad) m c)
    (hn : n + m ≤ 1000000) (hb : base ≤ w.heap.size)
    (h : ∀ (A' : Option Addr) (k' : Nat) (w' : World), w'.ownsRow base e size (.slice A' (n + m) k') (n + m) (xs ++ news) → w.grownBy w' (Value.slice A n k).ownBlock → Below base w w' → n + m ≤ k' → k' ≤ 9223372036854775807 →
      K (a.put o.dst (.slice A' (n + m) k')) w') : o.wp Try.prog a w K Q := by
  obtain ⟨i0, hi, hz0, hz1, hz2⟩ := info_parts ty.inf
  refine wp_append_own _ s x T ho base e i0 z size bytes ty.ht hi hz0 hz1 hz2 ty.hzs ty.hsz _ n xs hs hown ad m c news hx hl hnews h1 (by unfold maxLen; omega) ?_ hb ?_
  · have h2 := ty.hby
    calc (n + m) * bytes ≤ 1000000 * 100 := Nat.mul_le_mul (by omega) h2
      _ ≤ _ := by decide
  · intro v' w' hown' hg hv
    obtain ⟨A', k', rfl, hk, hk', _⟩ := own_form hown'
    refine h A' k' w' hown' hg ?_ hk hk'
    refine ⟨hg.os, hg.tape, hg.output, hg.size, fun b hb' => hg.block b (by omega) fun he => ?_⟩
    have := (hown.lt b he.symm).1
    omega

/- What a slice of slices of ints holds. -/

/-- One of the inner slices: it holds ints, and lies where the row that holds the slices cannot. -/
def Row1 (w : World) (b : Nat) (v : Value) (os : List Int) : Prop :=
  ∃ A c, v = .slice A os.length c ∧ os.length ≤ c ∧ c ≤ 9223372036854775807 ∧ Ints w A os ∧ ∀ ad, A = some ad → ad.block < b ∨ ∃ cs f, w.heap[ad.block]? = some (.cells cs 3 f)
def Rows (w : World) (b : Nat) (vs : List Value) (L : List (List Int)) : Prop :=
  vs.length = L.length ∧ ∀ (j : Nat) (os : List Int), L[j]? = some os → ∃ v, vs[j]? = some v ∧ Row1 w b v os

theorem Row1.below {w w' : World} {b : Nat} {v : Value} {os : List Int} (h : Row1 w b v os) (hb : Below w.heap.size w w') : Row1 w' b v os := by
  obtain ⟨A, c, hv, h1, h2, h3, h4⟩ := h
  refine ⟨A, c, hv, h1, h2, h3.below hb, fun ad hA => ?_⟩
  rcases h4 ad hA with h | ⟨cs, f, h⟩
  · exact .inl h
  · exact .inr ⟨cs, f, (hb.block _ (lt_of_block h)).trans h⟩
theorem Row1.mono {w : World} {b b' : Nat} {v : Value} {os : List Int} (h : Row1 w b v os) (hb : b ≤ b') : Row1 w b' v os := by
  obtain ⟨A, c, hv, h1, h2, h3, h4⟩ := h
  refine ⟨A, c, hv, h1, h2, h3, fun ad hA => ?_⟩
  rcases h4 ad hA with h | h
  · exact .inl (by omega)
  · exact .inr h
theorem Row1.of_own {w : World} {base n c : Nat} {A : Option Addr} {os : List Int} (h : w.ownsRow base 3 1 (.slice A n c) n (os.map (Value.int .i64))) (b : Nat) : Row1 w b (.slice A n c) os := by
  obtain ⟨A', c', he, h1, h2, _⟩ := own_form h
  injection he with e1 e2 e3
  subst e1; subst e3
  have hl : os.length = n := by have := h.1; simpa using this
  subst hl
  refine ⟨A, c, rfl, h1, h2, At.of_own h, fun ad hA => .inr ?_⟩
  rcases h.2 with ⟨h0, _⟩ | ⟨g, cap, cur, hv, _, hg, _⟩
  · rw [hA] at h0; cases h0
  · rw [hA] at hv
    injection hv with e1 _ _
    injection e1 with e1
    subst e1
    exact ⟨cur, _, hg⟩
theorem Row1.grown {w w' : World} {b base n : Nat} {v v' : Value} {os : List Int} {xs : List Value} (h : Row1 w b v os) (hown : w.ownsRow base 22 1 v' n xs) (hb : b ≤ base) (hg : w.grownBy w' v'.ownBlock) : Row1 w' b v os := by
  obtain ⟨A, c, hv, h1, h2, h3, h4⟩ := h
  have key : ∀ ad, A = some ad → (ad.block < b ∨ ∃ cs f, w.heap[ad.block]? = some (.cells cs 3 f)) → some ad.block ≠ v'.ownBlock := by
    intro ad hA hc he
    rcases hown.2 with ⟨h0, _⟩ | ⟨g, cap, cur, hv', hbg, hgg, _⟩
    · subst h0; cases he
    · subst hv'
      injection he with he
      rcases hc with hc | ⟨cs, f, hc⟩
      · have : ad.block = g := he
        omega
      · have : ad.block = g := he
        rw [this, hgg] at hc
        injection hc with hc
        injection hc with _ hc _
        exact absurd hc (by decide)
  refine ⟨A, c, hv, h1, h2, ?_, fun ad hA => ?_⟩
  · intro i u hu
    obtain ⟨ad, hA, hcell⟩ := h3 i u hu
    refine ⟨ad, hA, hg.cell hcell ?_⟩
    rw [add_block]
    exact key ad hA (h4 ad hA)
  · rcases h4 ad hA with h | ⟨cs, f, h⟩
    · exact .inl h
    · exact .inr ⟨cs, f, (hg.block _ (lt_of_block h) (key ad hA (h4 ad hA))).trans h⟩
theorem Row1.one {w : World} {b : Nat} {v : Value} {os : List Int} (h : Row1 w b v os) : v.oneCell' = true := by
  obtain ⟨A, c, rfl, _⟩ := h; rfl

section
variable {w w' : World} {b b' : Nat} {vs vs' : List Value} {L L' : List (List Int)}
theorem Rows.nil : Rows w b [] [] := ⟨rfl, fun j os h => by simp at h⟩
theorem Rows.below (h : Rows w b vs L) (hb : Below w.heap.size w w') : Rows w' b vs L :=
  ⟨h.1, fun j os hj => by obtain ⟨v, hv, hr⟩ := h.2 j os hj; exact ⟨v, hv, hr.below hb⟩⟩
theorem Rows.mono (h : Rows w b vs L) (hb : b ≤ b') : Rows w b' vs L :=
  ⟨h.1, fun j os hj => by obtain ⟨v, hv, hr⟩ := h.2 j os hj; exact ⟨v, hv, hr.mono hb⟩⟩
theorem Rows.grown {base n : Nat} {v' : Value} {xs : List Value} (h : Rows w b vs L) (hown : w.ownsRow base 22 1 v' n xs) (hb : b ≤ base) (hg : w.grownBy w' v'.ownBlock) : Rows w' b vs L :=
  ⟨h.1, fun j os hj => by obtain ⟨v, hv, hr⟩ := h.2 j os hj; exact ⟨v, hv, hr.grown hown hb hg⟩⟩
theorem Rows.append (h : Rows w b vs L) (h' : Rows w b vs' L') : Rows w b (vs ++ vs') (L ++ L') := by
  refine ⟨by rw [List.length_append, List.length_append, h.1, h'.1], fun j os hj => ?_⟩
  by_cases hlt : j < L.length
  · rw [List.getElem?_append_left hlt] at hj
    rw [List.getElem?_append_left (by rw [h.1]; exact hlt)]
    exact h.2 j os hj
  · rw [List.getElem?_append_right (by omega)] at hj
    rw [List.getElem?_append_right (by rw [h.1]; omega), h.1]
    exact h'.2 _ os hj
theorem Rows.one_ {v : Value} {os : List Int} (h : Row1 w b v os) : Rows w b [v] [os] :=
  ⟨rfl, fun j x hj => by cases j with
    | zero => simp at hj; subst hj; exact ⟨v, rfl, h⟩
    | succ j => simp at hj⟩
theorem Rows.one (h : Rows w b vs L) : ∀ u ∈ vs, u.oneCell' = true := by
  intro u hu
  obtain ⟨j, hj⟩ := List.getElem?_of_mem hu
  have hlt : j < L.length := by have := (List.getElem?_eq_some_iff.1 hj).1; have := h.1; omega
  obtain ⟨v, hv, hr⟩ := h.2 j _ (List.getElem?_eq_getElem hlt)
  rw [hj] at hv
  injection hv with hv
  subst hv
  exact hr.one
end

theorem info_ints : (Try.prog.info? 22).map (fun i => (i.zero, i.size, i.bytes)) = some (some (.slice none 0 0), 1, 24) := by kernel_rfl
theorem sty_intss : STy 23 22 (.slice none 0 0) 1 24 := ⟨Try.underlying23, info_ints, rfl, by decide, by decide⟩

/- Rows of ints that a call owns and may write. No program. -/

/-- Rows of ints that the call owns, each in a later block than those before it. -/
def ORows (w : World) (base : Nat) (vs : List Value) (L : List (List Int)) : Prop :=
  vs.length = L.length ∧ (∀ (j : Nat) (os : List Int), L[j]? = some os → ∃ A c, vs[j]? = some (.slice A os.length c) ∧ w.ownsRow base 3 1 (.slice A os.length c) os.length (os.map (Value.int .i64))) ∧
  ∀ (i j : Nat) (a b : Addr) (n c n' c' : Nat), i < j → vs[i]? = some (.slice (some a) n c) → vs[j]? = some (.slice (some b) n' c') → a.block < b.block

theorem own_ne {w : World} {base base' n n' : Nat} {v v' : Value} {xs ys : List Value} (h : w.ownsRow base 3 1 v n xs) (h' : w.ownsRow base' 22 1 v' n' ys) (hs : v.ownBlock.isSome) : v.ownBlock ≠ v'.ownBlock := by
  intro he
  rcases h.2 with ⟨h0, _⟩ | ⟨g, cap, cur, hv, _, hg, _⟩
  · subst h0; cases hs
  · rcases h'.2 with ⟨h0, _⟩ | ⟨g', cap', cur', hv', _, hg', _⟩
    · subst h0; subst hv; cases he
    · subst hv; subst hv'
      injection he with he
      have : g = g' := he
      subst this
      rw [hg] at hg'
      injection hg' with h1
      injection h1 with _ h1 _
      exact absurd h1 (by decide)
theorem own_grown_ne {w w' : World} {base base' n n' : Nat} {v v' : Value} {xs ys : List Value} (h : w.ownsRow base 3 1 v n xs) (h' : w.ownsRow base' 22 1 v' n' ys) (hg : w.grownBy w' v'.ownBlock) : w'.ownsRow base 3 1 v n xs := by
  refine ⟨h.1, ?_⟩
  rcases h.2 with h0 | ⟨g, cap, cur, hv, a1, a2, a3⟩
  · exact .inl h0
  · refine .inr ⟨g, cap, cur, hv, a1, ?_, a3⟩
    have hne := own_ne h h' (by rw [hv]; rfl)
    rw [hv] at hne
    exact (hg.block g (lt_of_block a2) hne).trans a2
section
variable {w w' : World} {base : Nat} {vs : List Value} {L : List (List Int)}
theorem ORows.nil (w : World) (base : Nat) : ORows w base [] [] := ⟨rfl, fun j os h => by simp at h, fun i j a b n c n' c' _ h => by simp at h⟩
theorem ORows.below (h : ORows w base vs L) (hb : Below w.heap.size w w') : ORows w' base vs L :=
  ⟨h.1, fun j os hj => by obtain ⟨A, c, h1, h2⟩ := h.2.1 j os hj; exact ⟨A, c, h1, own_below h2 hb⟩, h.2.2⟩
theorem ORows.grown {base' n : Nat} {v' : Value} {xs : List Value} (h : ORows w base vs L) (hown : w.ownsRow base' 22 1 v' n xs) (hg : w.grownBy w' v'.ownBlock) : ORows w' base vs L :=
  ⟨h.1, fun j os hj => by obtain ⟨A, c, h1, h2⟩ := h.2.1 j os hj; exact ⟨A, c, h1, own_grown_ne h2 hown hg⟩, h.2.2⟩
theorem ORows.lt (h : ORows w base vs L) : ∀ (i : Nat) (a : Addr) (n c : Nat), vs[i]? = some (.slice (some a) n c) → a.block < w.heap.size := by
  intro i a n c hi
  have hil : i < L.length := by rw [← h.1]; exact (List.getElem?_eq_some_iff.1 hi).1
  obtain ⟨A, c', h1, h2⟩ := h.2.1 i _ (List.getElem?_eq_getElem hil)
  rw [h1] at hi
  injection hi with hi
  injection hi with e1 _ _
  subst e1
  rcases h2.2 with ⟨h0, _⟩ | ⟨g, cap, cur, hv, _, hg, _⟩
  · cases h0
  · injection hv with e1 _ _
    injection e1 with e1
    subst e1
    exact lt_of_block hg
theorem ORows.snoc {w2 : World} {b2 : Nat} {A : Option Addr} {c : Nat} {os : List Int} (h : ORows w2 base vs L) (hb : base ≤ b2) (hown : w2.ownsRow b2 3 1 (.slice A os.length c) os.length (os.map (Value.int .i64)))
    (hlt : ∀ (i : Nat) (a : Addr) (n c : Nat), vs[i]? = some (.slice (some a) n c) → a.block < b2) : ORows w2 base (vs ++ [.slice A os.length c]) (L ++ [os]) := by
  refine ⟨by simp [h.1], fun j r hj => ?_, fun i j a b n c1 n' c2 hij hi hj => ?_⟩
  · by_cases hl : j < L.length
    · rw [List.getElem?_append_left hl] at hj
      rw [List.getElem?_append_left (by rw [h.1]; exact hl)]
      exact h.2.1 j r hj
    · have hj' : j = L.length := by
        have := (List.getElem?_eq_some_iff.1 hj).1
        simp at this; omega
      subst hj'
      rw [List.getElem?_append_right (Nat.le_refl _)] at hj
      simp at hj
      subst hj
      refine ⟨A, c, by rw [List.getElem?_append_right (by rw [h.1]; exact Nat.le_refl _)]; simp [h.1], hown.1, ?_⟩
      rcases hown.2 with h0 | ⟨g, cap, cur, hv, a1, a2⟩
      · exact .inl h0
      · exact .inr ⟨g, cap, cur, hv, by omega, a2⟩
  · have hjl := (List.getElem?_eq_some_iff.1 hj).1
    simp at hjl
    rw [List.getElem?_append_left (by omega)] at hi
    by_cases hl : j < vs.length
    · rw [List.getElem?_append_left hl] at hj
      exact h.2.2 i j a b n c1 n' c2 hij hi hj
    · have : j = vs.length := by omega
      subst this
      rw [List.getElem?_append_right (Nat.le_refl _)] at hj
      simp at hj
      obtain ⟨e1, e2, e3⟩ := hj
      subst e1
      have h1 := hlt i a n c1 hi
      rcases hown.2 with ⟨h0, _⟩ | ⟨g, cap, cur, hv, a1, _⟩
      · cases h0
      · injection hv with e1 _ _
        injection e1 with e1
        subst e1
        show a.block < g
        omega
theorem ORows.rows (h : ORows w base vs L) : Rows w 0 vs L :=
  ⟨h.1, fun j os hj => by obtain ⟨A, c, h1, h2⟩ := h.2.1 j os hj; exact ⟨_, h1, Row1.of_own h2 0⟩⟩
end

/- Fractions in lowest terms are rational numbers: the plain law behind the walks over api.Frac. No program. -/

/-- A rational number as the program's fraction. -/
def fr (q : Rat) : Value := .agg #[.int .i64 q.num, .int .i64 (q.den : Int)]

theorem gcd_nat (a b : Int) : (Int.gcd a b : Int) = Nat.gcd a.natAbs b.natAbs := rfl
theorem gcd_step (a b : Int) : Int.gcd b (a.tmod b) = Int.gcd a b := by
  unfold Int.gcd
  rw [Int.natAbs_tmod, Nat.gcd_comm a.natAbs, ← Nat.gcd_rec b.natAbs a.natAbs |>.symm, Nat.gcd_comm]
theorem gcd_pos {a b : Int} (h : 0 < b) : 0 < (Int.gcd a b : Int) := by
  have := Int.gcd_pos_of_ne_zero_right a (show b ≠ 0 by omega); omega
theorem gcd_le {a b : Int} (h : 0 < b) : (Int.gcd a b : Int) ≤ b := by
  have h1 : Int.gcd a b ≤ b.natAbs := Nat.gcd_le_right _ (by omega)
  omega
theorem div_num {a b : Int} (h : 0 < b) : a.tdiv (Int.gcd a b) = (Rat.divInt a b).num := by
  rw [Rat.num_divInt, Int.gcd_comm b a, Int.sign_eq_one_of_pos h, Int.one_mul]
  exact Int.tdiv_eq_ediv_of_dvd (Int.gcd_dvd_left a b)
theorem div_den {a b : Int} (h : 0 < b) : b.tdiv (Int.gcd a b) = ((Rat.divInt a b).den : Int) := by
  rw [Rat.den_divInt, if_neg (by omega), Int.gcd_comm b a, Int.tdiv_eq_ediv_of_dvd (Int.gcd_dvd_right a b)]
  obtain ⟨n, rfl⟩ := Int.eq_ofNat_of_zero_le (Int.le_of_lt h)
  simp
theorem tdiv_bd {a g : Int} {m : Int} (h1 : -m ≤ a) (h2 : a ≤ m) : -m ≤ a.tdiv g ∧ a.tdiv g ≤ m := by
  have h3 : (a.tdiv g).natAbs ≤ a.natAbs := by rw [Int.natAbs_tdiv]; exact Nat.div_le_self _ _
  omega
theorem divInt_bd {a b : Int} (h : 0 < b) {m : Int} (h1 : -m ≤ a) (h2 : a ≤ m) : -m ≤ (Rat.divInt a b).num ∧ (Rat.divInt a b).num ≤ m := by
  rw [← div_num h]; exact tdiv_bd h1 h2
theorem divInt_den_le {a b : Int} (h : 0 < b) : ((Rat.divInt a b).den : Int) ≤ b := by
  rw [← div_den h]
  have := gcd_pos (a := a) h
  rw [Int.tdiv_eq_ediv_of_nonneg (by omega)]
  exact Int.ediv_le_self _ (by omega)
theorem fr_inj {p q : Rat} : fr p = fr q ↔ p = q := by
  constructor
  · intro h
    simp only [fr, Value.agg.injEq, Array.mk.injEq, List.cons.injEq, Value.int.injEq, true_and, and_true] at h
    exact Rat.ext h.1 (by omega)
  · rintro rfl; rfl
theorem den_pos (q : Rat) : 0 < (q.den : Int) := by have := q.den_pos; omega
theorem add_divInt (p q : Rat) : Rat.divInt (p.num * q.den + q.num * p.den) (p.den * q.den) = p + q := by
  rw [Rat.add_def', ← Rat.divInt_ofNat]; simp
theorem sub_divInt (p q : Rat) : Rat.divInt (p.num * q.den - q.num * p.den) (p.den * q.den) = p - q := by
  rw [Rat.sub_def', ← Rat.divInt_ofNat]; simp
theorem mul_divInt (p q : Rat) : Rat.divInt (p.num * q.num) (p.den * q.den) = p * q := by
  rw [Rat.mul_def', ← Rat.divInt_ofNat]; simp
theorem less_iff (p q : Rat) : decide (p.num * q.den < q.num * p.den) = decide (p < q) := by
  rw [decide_eq_decide]; exact (Rat.lt_iff p q).symm
/-- A pair in lowest terms is a rational number. -/
theorem lowest_rat {a b : Int} (h : 0 < b) (hg : Int.gcd a b = 1) : ∃ q : Rat, q.num = a ∧ (q.den : Int) = b := by
  refine ⟨Rat.divInt a b, ?_, ?_⟩
  · rw [← div_num h, hg]; simp
  · rw [← div_den h, hg]; simp
theorem rat_lowest (q : Rat) : Int.gcd q.num q.den = 1 := q.reduced
/-- A small product. -/
theorem mul_bd {a b m n : Int} (h1 : -m ≤ a) (h2 : a ≤ m) (h3 : 0 ≤ b) (h4 : b ≤ n) : -(m * n) ≤ a * b ∧ a * b ≤ m * n := by
  have hm : 0 ≤ m := by omega
  have ha : a.natAbs ≤ m.natAbs := by omega
  have hb : b.natAbs ≤ n.natAbs := by omega
  have h := Nat.mul_le_mul ha hb
  rw [← Int.natAbs_mul, ← Int.natAbs_mul] at h
  have : 0 ≤ m * n := Int.mul_nonneg hm (by omega)
  omega

/- Words for a market in memory: fractions, rows of numbers, the two lists of a market. -/

/-- The cells of a row of fractions, of a row of pairs. -/
def fcells (qs : List Rat) : List Value := qs.flatMap fun q => [.int .i64 q.num, .int .i64 (q.den : Int)]
theorem fcells_snoc (qs : List Rat) (q : Rat) : fcells (qs ++ [q]) = fcells qs ++ [.int .i64 q.num, .int .i64 (q.den : Int)] := by simp [fcells]
def pcells (ps : List (Int × Int)) : List Value := ps.flatMap fun p => [.int .i64 p.1, .int .i64 p.2]
def pr (q : Rat) : Int × Int := (q.num, (q.den : Int))
theorem pcells_fr (qs : List Rat) : pcells (qs.map pr) = fcells qs := by
  induction qs with
  | nil => rfl
  | cons q qs ih => simp only [pcells, fcells, List.map_cons, List.flatMap_cons] at ih ⊢; rw [ih]; rfl
theorem pcells_snoc (ps : List (Int × Int)) (p : Int × Int) : pcells (ps ++ [p]) = pcells ps ++ [.int .i64 p.1, .int .i64 p.2] := by simp [pcells]
theorem pcells_length (ps : List (Int × Int)) : (pcells ps).length = ps.length * 2 := by
  induction ps with
  | nil => rfl
  | cons p ps ih => simp only [pcells, List.flatMap_cons, List.length_append, List.length_cons, List.length_nil] at ih ⊢; omega
theorem pcells_at (ps : List (Int × Int)) (k : Nat) (p : Int × Int) (h : ps[k]? = some p) : (pcells ps)[k * 2]? = some (.int .i64 p.1) ∧ (pcells ps)[k * 2 + 1]? = some (.int .i64 p.2) := by
  induction ps generalizing k with
  | nil => simp at h
  | cons p' ps ih =>
    cases k with
    | zero => simp at h; subst h; simp [pcells]
    | succ k =>
      have := ih k (by simpa using h)
      have e1 : (k + 1) * 2 = k * 2 + 1 + 1 := by omega
      rw [e1]
      simpa [pcells] using this
theorem pcells_take (ps : List (Int × Int)) (k : Nat) : pcells (ps.take k) = (pcells ps).take (k * 2) := by
  induction ps generalizing k with
  | nil => simp [pcells]
  | cons p ps ih =>
    cases k with
    | zero => simp [pcells]
    | succ k =>
      have e1 : (k + 1) * 2 = k * 2 + 1 + 1 := by omega
      rw [List.take_succ_cons, e1]
      have := ih k
      simp only [pcells, List.flatMap_cons] at this ⊢
      rw [this]
      simp
theorem pcells_one (ps : List (Int × Int)) : ∀ u ∈ pcells ps, u.oneCell' = true := by
  intro u hu
  simp only [pcells, List.mem_flatMap] at hu
  obtain ⟨p, _, hu⟩ := hu
  simp only [List.mem_cons, List.not_mem_nil, or_false] at hu
  rcases hu with rfl | rfl <;> rfl
/-- The slice at A reads as these pairs, as these fractions. -/
def Prs (w : World) (A : Option Addr) (ps : List (Int × Int)) : Prop := At w A (pcells ps)
theorem Prs.some_ {w : World} {A : Option Addr} {ps : List (Int × Int)} (h : Prs w A ps) (hn : 0 < ps.length) : ∃ ad, A = some ad ∧ ad.block < w.heap.size ∧ ∀ i p, ps[i]? = some p → w.cell? (ad.add (i * 2)) = some (.int .i64 p.1) ∧ w.cell? ⟨(ad.add (i * 2)).block, (ad.add (i * 2)).off + 1, none⟩ = some (.int .i64 p.2) := by
  obtain ⟨ad, e, hb, hc⟩ := At.some_ h (by rw [pcells_length]; omega)
  refine ⟨ad, e, hb, fun i p hp => ?_⟩
  obtain ⟨h1, h2⟩ := pcells_at ps i p hp
  refine ⟨hc _ _ h1, ?_⟩
  have h3 := hc _ _ h2
  rw [← add_add] at h3
  exact h3
theorem Prs.below {w w' : World} {A : Option Addr} {ps : List (Int × Int)} (h : Prs w A ps) (hb : Below w.heap.size w w') : Prs w' A ps := At.below h hb
theorem Prs.take {w : World} {A : Option Addr} {ps : List (Int × Int)} (h : Prs w A ps) (k : Nat) : Prs w A (ps.take k) := by
  intro i v hv
  refine h i v ?_
  rw [pcells_take, List.getElem?_take] at hv
  split at hv
  · exact hv
  · cases hv
def Fracs (w : World) (A : Option Addr) (qs : List Rat) : Prop := Prs w A (qs.map pr)
theorem Fracs.some_ {w : World} {A : Option Addr} {qs : List Rat} (h : Fracs w A qs) (hn : 0 < qs.length) : ∃ ad, A = some ad ∧ ad.block < w.heap.size ∧ ∀ i q, qs[i]? = some q → w.cell? (ad.add (i * 2)) = some (.int .i64 q.num) ∧ w.cell? ⟨(ad.add (i * 2)).block, (ad.add (i * 2)).off + 1, none⟩ = some (.int .i64 (q.den : Int)) := by
  obtain ⟨ad, e, hb, hc⟩ := Prs.some_ h (by simpa using hn)
  exact ⟨ad, e, hb, fun i q hq => hc i (pr q) (by rw [List.getElem?_map, hq]; rfl)⟩
theorem Fracs.below {w w' : World} {A : Option Addr} {qs : List Rat} (h : Fracs w A qs) (hb : Below w.heap.size w w') : Fracs w' A qs := At.below h hb
theorem Fracs.of_cells {w : World} {A : Option Addr} {qs : List Rat} (h : At w A (fcells qs)) : Fracs w A qs := by unfold Fracs Prs; rw [pcells_fr]; exact h
theorem Fracs.nil {w : World} {A : Option Addr} : Fracs w A [] := At.nil

/-- The slice of slices at A reads as V. -/
def Mat (w : World) (A : Option Addr) (V : List (List Int)) : Prop :=
  ∀ (j : Nat) (r : List Int), V[j]? = some r → ∃ ad A' c, A = some ad ∧ w.cell? (ad.add j) = some (.slice A' r.length c) ∧ r.length ≤ c ∧ c ≤ 9223372036854775807 ∧ Ints w A' r
theorem Mat.keep {w w' : World} {A : Option Addr} {V : List (List Int)} (h : Mat w A V) (hk : ∀ p v, w.cell? p = some v → w'.cell? p = some v) : Mat w' A V := fun j r hj => by
  obtain ⟨ad, A', c, h1, h2, h3, h4, h5⟩ := h j r hj
  exact ⟨ad, A', c, h1, hk _ _ h2, h3, h4, At.keep h5 hk⟩
theorem Mat.below {w w' : World} {A : Option Addr} {V : List (List Int)} (h : Mat w A V) (hb : Below w.heap.size w w') : Mat w' A V :=
  h.keep fun _ _ hc => (hb.cell (lt_of_cell hc)).trans hc
theorem Mat.nil {w : World} {A : Option Addr} : Mat w A [] := fun j r h => by simp at h
theorem Mat.some_ {w : World} {A : Option Addr} {V : List (List Int)} (h : Mat w A V) (hn : 0 < V.length) : ∃ ad, A = some ad ∧ ad.block < w.heap.size ∧ ∀ (j : Nat) (r : List Int), V[j]? = some r → ∃ A' c, w.cell? (ad.add j) = some (.slice A' r.length c) ∧ r.length ≤ c ∧ c ≤ 9223372036854775807 ∧ Ints w A' r := by
  obtain ⟨ad, A', c, h1, h2, _⟩ := h 0 _ (List.getElem?_eq_getElem hn)
  refine ⟨ad, h1, by have := lt_of_cell h2; rwa [add_block] at this, fun j r hj => ?_⟩
  obtain ⟨ad', A', c, h1', h2, h3⟩ := h j r hj
  rw [h1] at h1'
  injection h1' with h1'
  subst h1'
  exact ⟨A', c, h2, h3⟩
def rowV (V : List (List Int)) (i : Nat) : List Int := V.getD i []
theorem rowV_get {V : List (List Int)} {i : Nat} {r : List Int} (h : V[i]? = some r) : rowV V i = r := by unfold rowV; rw [List.getD_eq_getElem?_getD, h]; rfl
theorem rowV_some {V : List (List Int)} {i : Nat} (h : i < V.length) : V[i]? = some (rowV V i) := by unfold rowV; rw [List.getD_eq_getElem?_getD, List.getElem?_eq_getElem h]; rfl
/-- A market's value. -/
def mktV (A : Option Addr) (n c : Nat) (U : Option Addr) (m d : Nat) : Value := .agg #[.slice A n c, .slice U m d]
/-- The two lists read as budgets and uses. -/
structure MktAt (w : World) (A : Option Addr) (n : Nat) (U : Option Addr) (m : Nat) (B : List Int) (V : List (List Int)) : Prop where
  hB : B.length = n
  hV : V.length = m
  budgets : Ints w A B
  uses : Mat w U V
theorem MktAt.below {w w' : World} {A U : Option Addr} {n m : Nat} {B : List Int} {V : List (List Int)} (h : MktAt w A n U m B V) (hb : Below w.heap.size w w') : MktAt w' A n U m B V :=
  ⟨h.hB, h.hV, h.budgets.below hb, h.uses.below hb⟩

/- Which markets are valid: plain Lean. -/

def in20 (x : Int) : Bool := decide (0 ≤ x) && decide (x ≤ 20)
def budOk (x : Int) : Bool := decide (1 ≤ x) && decide (x ≤ 20)
def rowOk (k : Nat) (r : List Int) : Bool := decide (r.length = k) && (r.all in20 && r.any fun x => decide (0 < x))
def wanted (V : List (List Int)) (g : Nat) : Bool := V.any fun r => decide (0 < r.getD g 0)
def goodsN (V : List (List Int)) : Nat := (rowV V 0).length
def validM (B : List Int) (V : List (List Int)) : Bool :=
  (decide (1 ≤ B.length) && (decide (B.length ≤ 3) && (B.all budOk && decide (V.length = B.length)))) && ((decide (1 ≤ goodsN V) && decide (goodsN V ≤ 3)) && (V.all (rowOk (goodsN V)) && (List.range (goodsN V)).all (wanted V)))
theorem validM_iff {B : List Int} {V : List (List Int)} : validM B V = true ↔ (1 ≤ B.length ∧ B.length ≤ 3 ∧ (∀ b ∈ B, 1 ≤ b ∧ b ≤ 20) ∧ V.length = B.length) ∧ (1 ≤ goodsN V ∧ goodsN V ≤ 3) ∧ (∀ r ∈ V, rowOk (goodsN V) r = true) ∧ ∀ g, g < goodsN V → wanted V g = true := by
  simp [validM, budOk, and_assoc]
theorem rowOk_iff {k : Nat} {r : List Int} : rowOk k r = true ↔ r.length = k ∧ (∀ x ∈ r, 0 ≤ x ∧ x ≤ 20) ∧ ∃ x ∈ r, 0 < x := by
  simp [rowOk, in20]
/-- What slices.Min and slices.Max say of a row. -/
theorem rowOk_minmax {k : Nat} {r : List Int} (hk : 1 ≤ k) (hl : r.length = k) : rowOk k r = (decide (0 ≤ lmin r) && (decide (lmax r ≤ 20) && (lmax r != 0))) := by
  have hne : r ≠ [] := by rintro rfl; simp at hl; omega
  have h1 := lmin_ge hne 0
  have h2 := lmax_le hne 20
  have h3 := lmax_le hne 0
  rw [Bool.eq_iff_iff, rowOk_iff]
  simp only [Bool.and_eq_true, decide_eq_true_eq, bne_iff_ne, ne_eq]
  constructor
  · rintro ⟨_, ha, x, hx, hx0⟩
    refine ⟨h1.2 fun y hy => (ha y hy).1, h2.2 fun y hy => (ha y hy).2, fun h0 => ?_⟩
    have := h3.1 (by omega) x hx
    omega
  · rintro ⟨a1, a2, a3⟩
    have b1 := h1.1 a1
    have b2 := h2.1 a2
    refine ⟨hl, fun y hy => ⟨b1 y hy, b2 y hy⟩, ?_⟩
    by_cases hex : ∃ x ∈ r, 0 < x
    · exact hex
    · exfalso
      have h4 : lmax r ≤ 0 := h3.2 fun y hy => by
        rcases Int.lt_or_le 0 y with h | h
        · exact absurd ⟨y, hy, h⟩ hex
        · exact h
      obtain ⟨y, hy⟩ := List.exists_mem_of_ne_nil _ hne
      have := b1 y hy
      have h5 : ∀ z ∈ r, z ≤ lmax r := by have := (lmax_le hne (lmax r)).1 (Int.le_refl _); exact this
      have := h5 y hy
      omega
theorem bud_minmax {B : List Int} (hne : B ≠ []) : B.all budOk = (decide (1 ≤ lmin B) && decide (lmax B ≤ 20)) := by
  have h1 := lmin_ge hne 1
  have h2 := lmax_le hne 20
  rw [Bool.eq_iff_iff]
  simp only [List.all_eq_true, budOk, Bool.and_eq_true, decide_eq_true_eq]
  rw [h1, h2]
  exact ⟨fun h => ⟨fun x hx => (h x hx).1, fun x hx => (h x hx).2⟩, fun h x hx => ⟨h.1 x hx, h.2 x hx⟩⟩
theorem mem_take_succ {α : Type} {l : List α} {k : Nat} {x : α} (h : l[k]? = some x) : l.take (k + 1) = l.take k ++ [x] := by rw [List.take_add_one, h]; rfl
theorem all_take_s {α : Type} {l : List α} {p : α → Bool} {k : Nat} {x : α} (hx : l[k]? = some x) (h : (l.take k).all p = true) (hp : p x = true) : (l.take (k + 1)).all p = true := by
  rw [mem_take_succ hx, List.all_append, h]; simp [hp]
theorem any_take_s {α : Type} {l : List α} {p : α → Bool} {k : Nat} {x : α} (hx : l[k]? = some x) (h : (l.take k).any p = false) (hp : p x = false) : (l.take (k + 1)).any p = false := by
  rw [mem_take_succ hx, List.any_append, h]; simp [hp]
theorem all_bad {α : Type} {l : List α} {p : α → Bool} {k : Nat} {x : α} (hx : l[k]? = some x) (hp : p x = false) : l.all p = false := by
  rw [List.all_eq_false]; exact ⟨x, List.mem_of_getElem? hx, by simp [hp]⟩

/- Contracts of the fractions of the references (package corrodyref04): gcd, Of, Add, Sub, Mul, Less, Lowest. -/

set_option maxHeartbeats 400000 in
theorem rgcd_any (a b : Int) (w : World) (ha : 0 ≤ a) (hb : 0 ≤ b) (ha' : a ≤ 9223372036854775807) (hb' : b ≤ 9223372036854775807) :
    Calls Try.prog 42 #[.int .i64 a, .int .i64 b] w fun e w' => e = .returned (.int .i64 (Int.gcd a b)) ∧ ∃ n, w' = w.drewN n := by
  go_enter Try.func42, Try.ntmps42
  go_wp2
  go_loopw [0, 1] (fun x y wr => ∃ a' b' : Int, x = .int .i64 a' ∧ y = .int .i64 b' ∧ 0 ≤ a' ∧ a' ≤ 9223372036854775807 ∧ 0 ≤ b' ∧ b' ≤ 9223372036854775807 ∧ Int.gcd a' b' = Int.gcd a b ∧ ∃ n, wr = w.drewN n) (fun _ y _ => (intOf y).toNat)
  case atStart => exact ⟨a, b, rfl, rfl, ha, ha', hb, hb', rfl, 0, rfl⟩
  case round =>
    obtain ⟨a', b', rfl, rfl, h1, h2, h3, h4, hg, n, rfl⟩ := hrel
    have HG := Lib.hid hg
    clear hg
    by_cases h0 : b' = 0
    · subst h0
      go_wp2
      go_ret
      exact ⟨ret_int (by rw [← HG.out]; simp; omega), n, rfl⟩
    · have hr := Int.emod_nonneg a' h0
      have hr2 := Int.emod_lt_of_pos a' (show 0 < b' by omega)
      go_wp2
      go_quiet (fail)
      go_wp2
      go_roundw
      case rel => exact ⟨b', a' % b', rfl, by first | rfl | (rw [Int.tmod_eq_emod_of_nonneg h1]), h3, h4, hr, by omega, by rw [← HG.out, ← gcd_step a' b', Int.tmod_eq_emod_of_nonneg h1], n + _, World.drewN_drewN _ _ _⟩
      case measure => simp [intOf]; omega

set_option maxHeartbeats 400000 in
theorem rof_any (a b : Int) (w : World) (ha : -9223372036854775807 ≤ a) (ha' : a ≤ 9223372036854775807) (hb : 0 < b) (hb' : b ≤ 9223372036854775807) :
    Calls Try.prog 41 #[.int .i64 a, .int .i64 b] w fun e w' => e = .returned (fr (Rat.divInt a b)) ∧ Below w.heap.size w w' := by
  have hn := div_num (a := a) hb
  have hd := div_den (a := a) hb
  have hg := gcd_pos (a := a) hb
  have hgl := gcd_le (a := a) hb
  generalize hG : (Int.gcd a b : Int) = g at *
  generalize hQ : Rat.divInt a b = q at *
  rw [Int.tdiv_eq_ediv_of_nonneg (by omega)] at hd
  have HN := Lib.hid hn
  have HD := Lib.hid hd
  have HG := Lib.hid hG
  clear hn hd hG hQ
  go_enter Try.func41, Try.ntmps41
  by_cases h0 : a < 0
  · go_wp2_with fail
    refine (rgcd_any _ b _ (by omega) (by omega) (by omega) (by omega)).mono ?_
    rintro e w' ⟨rfl, n, rfl⟩
    rw [show ((-a).gcd b : Int) = g from by rw [Int.neg_gcd]; exact HG.out]
    go_wp2
    go_region
    go_wp2
    exact bodyPost_ret (v := fr q) (by simp [results, Try.results41, go_sem, fr, HN.out, HD.out]) rfl ⟨rfl, ((below_drewN ((Below.refl _ _).alloc (Nat.le_refl _) _) _).setCell (Nat.le_refl _) _).setCell (Nat.le_refl _) _⟩
  · have HN' : Hid (a / g = q.num) := Lib.hid (by rw [← HN.out, Int.tdiv_eq_ediv_of_nonneg (by omega)])
    go_wp2_with fail
    refine (rgcd_any _ b _ (by omega) (by omega) (by omega) (by omega)).mono ?_
    rintro e w' ⟨rfl, n, rfl⟩
    rw [show (a.gcd b : Int) = g from HG.out]
    go_wp2
    go_region
    go_wp2
    exact bodyPost_ret (v := fr q) (by simp [results, Try.results41, go_sem, fr, HN'.out, HD.out]) rfl ⟨rfl, ((below_drewN ((Below.refl _ _).alloc (Nat.le_refl _) _) _).setCell (Nat.le_refl _) _).setCell (Nat.le_refl _) _⟩

/-! arith -/
set_option maxHeartbeats 400000 in
theorem radd_raw (p q : Rat) (w : World) (h1 : -4000000000000000000 ≤ p.num * q.den) (h2 : p.num * q.den ≤ 4000000000000000000) (h3 : -4000000000000000000 ≤ q.num * p.den) (h4 : q.num * p.den ≤ 4000000000000000000) (h5 : (p.den : Int) * q.den ≤ 4000000000000000000) :
    Calls Try.prog 31 #[fr p, fr q] w fun e w' => e = .returned (fr (p + q)) ∧ Below w.heap.size w w' := by
  have hd : 0 < (p.den : Int) * q.den := Int.mul_pos (den_pos p) (den_pos q)
  have HL := Lib.hid (add_divInt p q)
  generalize hR : fr (p + q) = R
  have HR := Lib.hid hR
  clear hR
  unfold fr
  go_enter Try.func31, Try.ntmps31
  go_wp2_with fail
  refine (rof_any _ _ _ (by omega) (by omega) (by omega) (by omega)).mono ?_
  rintro e w' ⟨rfl, hb⟩
  rw [HL.out]
  have hB : Blk w' (w.heap.size + 1 + 1) 37 #[.int .i64 0, .int .i64 0] := (Blk.new _ _ _ (by simp)).below hb (by simp)
  obtain ⟨c0, c1, f0, f1⟩ := hB.at2
  have HB := Lib.hid hb
  clear hb hB
  unfold fr
  go_wp2
  refine bodyPost_ret (v := R) (by simp [results, Try.results31, go_sem, ← HR.out, fr, c0, c1]) rfl ⟨rfl, ?_⟩
  exact ((((((Below.refl _ _).alloc (by go_size) _).alloc (by go_size) _).alloc (by go_size) _).trans (HB.out.mono (by go_size))).setCell (by go_size) _).setCell (by go_size) _

set_option maxHeartbeats 400000 in
theorem rsub_raw (p q : Rat) (w : World) (h1 : -4000000000000000000 ≤ p.num * q.den) (h2 : p.num * q.den ≤ 4000000000000000000) (h3 : -4000000000000000000 ≤ q.num * p.den) (h4 : q.num * p.den ≤ 4000000000000000000) (h5 : (p.den : Int) * q.den ≤ 4000000000000000000) :
    Calls Try.prog 63 #[fr p, fr q] w fun e w' => e = .returned (fr (p - q)) ∧ Below w.heap.size w w' := by
  have hd : 0 < (p.den : Int) * q.den := Int.mul_pos (den_pos p) (den_pos q)
  have HL := Lib.hid (sub_divInt p q)
  generalize hR : fr (p - q) = R
  have HR := Lib.hid hR
  clear hR
  unfold fr
  go_enter Try.func63, Try.ntmps63
  go_wp2_with fail
  refine (rof_any _ _ _ (by omega) (by omega) (by omega) (by omega)).mono ?_
  rintro e w' ⟨rfl, hb⟩
  rw [HL.out]
  have hB : Blk w' (w.heap.size + 1 + 1) 37 #[.int .i64 0, .int .i64 0] := (Blk.new _ _ _ (by simp)).below hb (by simp)
  obtain ⟨c0, c1, f0, f1⟩ := hB.at2
  have HB := Lib.hid hb
  clear hb hB
  unfold fr
  go_wp2
  refine bodyPost_ret (v := R) (by simp [results, Try.results63, go_sem, ← HR.out, fr, c0, c1]) rfl ⟨rfl, ?_⟩
  exact ((((((Below.refl _ _).alloc (by go_size) _).alloc (by go_size) _).alloc (by go_size) _).trans (HB.out.mono (by go_size))).setCell (by go_size) _).setCell (by go_size) _

set_option maxHeartbeats 400000 in
theorem rmul_raw (p q : Rat) (w : World) (h1 : -4000000000000000000 ≤ p.num * q.num) (h2 : p.num * q.num ≤ 4000000000000000000) (h5 : (p.den : Int) * q.den ≤ 4000000000000000000) :
    Calls Try.prog 19 #[fr p, fr q] w fun e w' => e = .returned (fr (p * q)) ∧ Below w.heap.size w w' := by
  have hd : 0 < (p.den : Int) * q.den := Int.mul_pos (den_pos p) (den_pos q)
  have HL := Lib.hid (mul_divInt p q)
  generalize hR : fr (p * q) = R
  have HR := Lib.hid hR
  clear hR
  unfold fr
  go_enter Try.func19, Try.ntmps19
  go_wp2_with fail
  refine (rof_any _ _ _ (by omega) (by omega) (by omega) (by omega)).mono ?_
  rintro e w' ⟨rfl, hb⟩
  rw [HL.out]
  have hB : Blk w' (w.heap.size + 1 + 1) 37 #[.int .i64 0, .int .i64 0] := (Blk.new _ _ _ (by simp)).below hb (by simp)
  obtain ⟨c0, c1, f0, f1⟩ := hB.at2
  have HB := Lib.hid hb
  clear hb hB
  unfold fr
  go_wp2
  refine bodyPost_ret (v := R) (by simp [results, Try.results19, go_sem, ← HR.out, fr, c0, c1]) rfl ⟨rfl, ?_⟩
  exact ((((((Below.refl _ _).alloc (by go_size) _).alloc (by go_size) _).alloc (by go_size) _).trans (HB.out.mono (by go_size))).setCell (by go_size) _).setCell (by go_size) _

/- Contracts: Less and Lowest of the reference (as in Frac2, for a seat without package games). -/

set_option maxHeartbeats 400000 in
theorem rless_any (p q : Rat) (w : World) (h1 : -4000000000000000000 ≤ p.num * q.den) (h2 : p.num * q.den ≤ 4000000000000000000) (h3 : -4000000000000000000 ≤ q.num * p.den) (h4 : q.num * p.den ≤ 4000000000000000000) :
    Calls Try.prog 22 #[fr p, fr q] w fun e w' => e = .returned (.bool (decide (p < q))) ∧ Below w.heap.size w w' := by
  rw [← less_iff]
  unfold fr
  go_enter Try.func22, Try.ntmps22
  go_wp2
  go_ret
  exact ⟨rfl, ((Below.refl _ _).alloc (by go_size) _).alloc (by go_size) _⟩

/-- What Lowest answers of any pair. -/
def lowB (a b : Int) : Bool := decide (1 ≤ b) && decide (-4611686018427387904 < a) && ((Int.gcd a b : Int) == 1)

set_option maxHeartbeats 400000 in
theorem rlowest_any (a b : Int) (w : World) (ha : -9223372036854775808 ≤ a) (ha' : a ≤ 9223372036854775807) (hb' : b ≤ 9223372036854775807) :
    Calls Try.prog 21 #[.agg #[.int .i64 a, .int .i64 b]] w fun e w' => e = .returned (.bool (lowB a b)) ∧ Below w.heap.size w w' := by
  by_cases h1 : 1 ≤ b
  · by_cases h2 : -4611686018427387904 < a
    · have e : lowB a b = ((Int.gcd a b : Int) == 1) := by simp [lowB, h1, h2]
      rw [e]
      go_enter Try.func21, Try.ntmps21
      by_cases h0 : a < 0
      · go_wp2_with fail
        refine (rgcd_any _ b _ (by omega) (by omega) (by omega) (by omega)).mono ?_
        rintro e w' ⟨rfl, n, rfl⟩
        rw [show ((-a).gcd b : Int) = a.gcd b from by rw [Int.neg_gcd]]
        go_wp2
        go_ret
        exact ⟨rfl, below_drewN ((Below.refl _ _).alloc (by go_size) _) _⟩
      · go_wp2_with fail
        refine (rgcd_any _ b _ (by omega) (by omega) (by omega) (by omega)).mono ?_
        rintro e w' ⟨rfl, n, rfl⟩
        go_wp2
        go_ret
        exact ⟨rfl, below_drewN ((Below.refl _ _).alloc (by go_size) _) _⟩
    · have e : lowB a b = false := by simp [lowB, h2]
      rw [e]
      go_enter Try.func21, Try.ntmps21
      go_wp2
      go_ret
      exact ⟨rfl, (Below.refl _ _).alloc (by go_size) _⟩
  · have e : lowB a b = false := by simp [lowB, h1]
    rw [e]
    go_enter Try.func21, Try.ntmps21
    go_wp2
    go_ret
    exact ⟨rfl, (Below.refl _ _).alloc (by go_size) _⟩

theorem fr_int (n : Int) : fr (n : Rat) = .agg #[.int .i64 n, .int .i64 1] := rfl

/- Contracts of the fractions of package market: gcd, lowest, whole. -/

set_option maxHeartbeats 400000 in
theorem mgcd_any (a b : Int) (w : World) (ha : -9223372036854775807 ≤ a) (ha' : a ≤ 9223372036854775807) (hb : -9223372036854775807 ≤ b) (hb' : b ≤ 9223372036854775807) :
    Calls Try.prog 64 #[.int .i64 a, .int .i64 b] w fun e w' => e = .returned (.int .i64 (Int.gcd a b)) ∧ ∃ n, w' = w.drewN n := by
  go_enter Try.func64, Try.ntmps64
  go_wp2
  go_loopw [0, 1] (fun x y wr => ∃ a' b' : Int, x = .int .i64 a' ∧ y = .int .i64 b' ∧ -9223372036854775807 ≤ a' ∧ a' ≤ 9223372036854775807 ∧ -9223372036854775807 ≤ b' ∧ b' ≤ 9223372036854775807 ∧ Int.gcd a' b' = Int.gcd a b ∧ ∃ n, wr = w.drewN n) (fun _ y _ => (intOf y).natAbs)
  case atStart => exact ⟨a, b, rfl, rfl, ha, ha', hb, hb', rfl, 0, rfl⟩
  case round =>
    obtain ⟨a', b', rfl, rfl, h1, h2, h3, h4, hg, n, rfl⟩ := hrel
    have HG := Lib.hid hg
    clear hg
    by_cases h0 : b' = 0
    · subst h0
      have HA : Hid ((Int.gcd a b : Int) = a'.natAbs) := Lib.hid (by rw [← HG.out]; simp)
      by_cases hs : a' < 0
      · go_wp2
        go_ret
        exact ⟨ret_int (by rw [HA.out]; omega), n, rfl⟩
      · go_wp2
        go_ret
        exact ⟨ret_int (by rw [HA.out]; omega), n, rfl⟩
    · have hr : (a'.tmod b').natAbs < b'.natAbs := by rw [Int.natAbs_tmod]; exact Nat.mod_lt _ (by omega)
      have HR := Lib.hid hr
      clear hr
      go_wp2
      go_quiet (fail)
      go_wp2
      go_roundw
      case rel => exact ⟨b', a'.tmod b', rfl, rfl, h3, h4, by have := HR.out; omega, by have := HR.out; omega, by rw [← HG.out, ← gcd_step a' b'], n + _, World.drewN_drewN _ _ _⟩
      case measure => have h := HR.out; rw [Int.natAbs_tmod] at h; simpa [intOf] using h

set_option maxHeartbeats 400000 in
theorem mlowest_any (a b : Int) (w : World) (ha : -9223372036854775807 ≤ a) (ha' : a ≤ 9223372036854775807) (hb : 0 < b) (hb' : b ≤ 9223372036854775807) :
    Calls Try.prog 65 #[.agg #[.int .i64 a, .int .i64 b]] w fun e w' => e = .returned (fr (Rat.divInt a b)) ∧ Below w.heap.size w w' := by
  have hn := div_num (a := a) hb
  have hd := div_den (a := a) hb
  have hg := gcd_pos (a := a) hb
  have hgl := gcd_le (a := a) hb
  generalize hG : (Int.gcd a b : Int) = g at *
  generalize hQ : Rat.divInt a b = q at *
  rw [Int.tdiv_eq_ediv_of_nonneg (by omega)] at hd
  have HN := Lib.hid hn
  have HD := Lib.hid hd
  have HG := Lib.hid hG
  clear hn hd hG hQ
  go_enter Try.func65, Try.ntmps65
  go_wp2_with fail
  refine (mgcd_any a b _ (by omega) (by omega) (by omega) (by omega)).mono ?_
  rintro e w' ⟨rfl, n, rfl⟩
  rw [show (a.gcd b : Int) = g from HG.out]
  have hB : ∀ m, Below w.heap.size w ((((w.alloc (.cells #[.int .i64 a, .int .i64 b] 77)).alloc (.cells #[.int .i64 0, .int .i64 0] 77)).drewN n).drewN m) := fun m => below_drewN (below_drewN (((Below.refl _ _).alloc (Nat.le_refl _) _).alloc (by go_size) _) n) m
  have HB := Lib.hid hB
  clear hB
  by_cases h0 : a < 0
  · go_wp2
    go_region
    go_wp2
    exact bodyPost_ret (v := fr q) (by simp [results, Try.results65, go_sem, fr, HN.out, HD.out]) rfl ⟨rfl, ((HB.out 1).setCell (by go_size) _).setCell (by go_size) _⟩
  · have HN' : Hid (a / g = q.num) := Lib.hid (by rw [← HN.out, Int.tdiv_eq_ediv_of_nonneg (by omega)])
    go_wp2
    go_region
    go_wp2
    exact bodyPost_ret (v := fr q) (by simp [results, Try.results65, go_sem, fr, HN'.out, HD.out]) rfl ⟨rfl, ((HB.out 1).setCell (by go_size) _).setCell (by go_size) _⟩
theorem mwhole_any (n : Int) (w : World) : Calls Try.prog 47 #[.int .i64 n] w fun e w' => e = .returned (fr (n : Rat)) ∧ Below w.heap.size w w' := by
  rw [fr_int]
  go_enter Try.func47, Try.ntmps47
  go_wp2
  exact bodyPost_ret (v := .agg #[.int .i64 n, .int .i64 1]) (by simp [results, Try.results47, go_sem]) rfl ⟨rfl, (Below.refl _ _).alloc (Nat.le_refl _) _⟩
theorem l4whole_any (n : Int) (w : World) : Calls Try.prog 20 #[.int .i64 n] w fun e w' => e = .returned (fr (n : Rat)) ∧ Below w.heap.size w w' := by
  rw [fr_int]
  go_enter Try.func20, Try.ntmps20
  go_wp2
  exact bodyPost_ret (v := .agg #[.int .i64 n, .int .i64 1]) (by simp [results, Try.results20, go_sem]) rfl ⟨rfl, (Below.refl _ _).alloc (Nat.le_refl _) _⟩

/- A region that draws its order, whose operations read and whose calls may make memory of their own but hand back plain values: walked once, in the order of the text. No program. -/

/-- A world that came of w: what w holds reads in it as in w. -/
structure Desc (w : World) where
  val : World
  below : Below w.heap.size w val

instance descNonempty (w : World) : Nonempty (Desc w) := ⟨⟨w, Below.refl _ _⟩⟩

theorem wp_region_desc {P : Program} {id : Nat} {Q : Exit → Act → World → Prop} {a : Act} {w : World} {l : List Oper} (hm : P.follows .mixedOrders = true) (hB : Region.lexB .any l.toArray = true)
    (h : wpQuiet P l.toArray (fun w' => ∃ s : Desc w, w' = s.val) (fun a' => ∀ w', (∃ s : Desc w, w' = s.val) → Q .normal a' w') l a) : (Code.region id l.toArray true).wp P Q a w :=
  wp_region_quiet (C := fun w' => ∃ s : Desc w, w' = s.val) hm hB ⟨⟨_, (Below.refl _ _).drew⟩, rfl⟩ (by simpa using h)

theorem Calls.desc_of {P : Program} {f : FuncId} {args : Array Value} {w : World} {s : Desc w} {v : Value}
    (h : Calls P f args s.val fun e w' => e = .returned v ∧ Below s.val.heap.size s.val w') : Calls P f args s.val fun e w'' => e = .returned v ∧ ∃ s' : Desc w, w'' = s'.val :=
  h.mono fun _ w' ⟨he, hb⟩ => ⟨he, ⟨w', s.below.trans (hb.mono s.below.size)⟩, rfl⟩
theorem Calls.desc_of_drew {P : Program} {f : FuncId} {args : Array Value} {w : World} {s : Desc w} {v : Value}
    (h : Calls P f args s.val fun e w' => e = .returned v ∧ ∃ n, w' = s.val.drewN n) : Calls P f args s.val fun e w'' => e = .returned v ∧ ∃ s' : Desc w, w'' = s'.val :=
  h.mono fun _ _ ⟨he, n, hn⟩ => ⟨he, ⟨_, by subst hn; exact ⟨s.below.os, s.below.tape, s.below.output, s.below.size, s.below.block⟩⟩, rfl⟩
theorem Calls.desc_of_same {P : Program} {f : FuncId} {args : Array Value} {w : World} {s : Desc w} {v : Value}
    (h : Calls P f args s.val fun e w' => e = .returned v ∧ s.val = w') : Calls P f args s.val fun e w'' => e = .returned v ∧ ∃ s' : Desc w, w'' = s'.val :=
  h.mono fun _ _ ⟨he, hn⟩ => ⟨he, s, hn.symm⟩
theorem Desc.cell {w : World} (s : Desc w) {p : Addr} {v : Value} (h : w.cell? p = some v) : s.val.cell? p = some v := by
  rcases Nat.lt_or_ge p.block w.heap.size with hlt | hge
  · exact (s.below.cell hlt).trans h
  · simp [World.cell?, Array.getElem?_eq_none hge] at h

/- A region that draws its order: first operations that read, or call what makes memory of its own and hands back plain values, then, waiting for all of them, a few in one forced order (a store, an append ..). No program. -/

section
variable {P : Program} {ops : Array Oper} {md : Region.Mode} {C : World → Prop}
/-- The first n operations in whatever order, in the class of worlds C; then L. -/
def headsIn (P : Program) (md : Region.Mode) (ops : Array Oper) (C : World → Prop) (n : Nat) (L : Array Bool → Act → Prop) : Nat → Array Bool → Act → Prop
  | 0, listed, a => L listed a
  | f + 1, listed, a => Region.ready md ops listed ≠ [] ∧ ∀ i ∈ Region.ready md ops listed, i < n ∧ qOp P ops C i (headsIn P md ops C n L f (listed.setIfInBounds i true)) a

theorem any_of_heads {n g : Nat} {L : Array Bool → Act → Prop} {Q' : Exit → Act → World → Prop} (hL : ∀ listed a w, C w → L listed a → wpAny P md ops Q' g listed a w) (f : Nat) :
    ∀ (listed : Array Bool) (a : Act) (w : World), C w → headsIn P md ops C n L f listed a → wpAny P md ops Q' (f + g) listed a w := by
  induction f with
  | zero => intro listed a w hw h; rw [Nat.zero_add]; exact hL _ _ _ hw h
  | succ f ih =>
    intro listed a w hw h
    rw [show f + 1 + g = (f + g) + 1 from by omega]
    exact ⟨fun h0 => absurd h0 h.1, fun i hi => wpOp_of_qOp hw (fun a' w' hw' h' => ih _ a' w' hw' h') (h.2 i hi).2⟩

theorem heads_first {n i : Nat} {oi : Oper} {v : Value} {L : Array Bool → Act → Prop} (hi : ops[i]? = some oi) (hsel : ∀ (j : Nat) (o : Oper) cs b, ops[j]? = some o → o.op ≠ .select cs b)
    (hs : Region.sinkB md ops n = true) (hc : Region.chainB md ops n = true) (hn : n < ops.size) (hin : i < n)
    (hdone : ∀ listed a, L listed a → ∀ j ∈ Region.ready md ops listed, n ≤ j) (f : Nat) :
    ∀ (listed : Array Bool) (a : Act), HeadInv md ops n listed →
      (∀ j oj, ops[j]? = some oj → j ≠ i → listed.getD j true = false → (∀ e ∈ oj.after, Region.binds md e = true → e.on ≠ i) → oi.apart ops oj = true) →
      i ∈ Region.ready md ops listed → YieldsIn P ops C oi v a →
      headsIn P md ops C n L f (listed.setIfInBounds i true) (a.put oi.dst v) → headsIn P md ops C n L (f + 1) listed a := by
  induction f with
  | zero =>
    intro listed a inv _ hr hy H
    have hun := (mem_ready.1 hr).1
    refine ⟨List.ne_nil_of_mem hr, fun j hj => ?_⟩
    have hjn : j < n := Nat.lt_of_not_le fun h => absurd hj (tail_waits hs hc hn inv _ i rfl hin hun j h)
    refine ⟨hjn, ?_⟩
    by_cases hji : j = i
    · subst hji; exact hy.qOp hi H
    · have := hdone _ _ H j (ready_mono hj hji)
      omega
  | succ f ih =>
    intro listed a inv hfree hr hy H
    have hun := (mem_ready.1 hr).1
    refine ⟨List.ne_nil_of_mem hr, fun j hj => ?_⟩
    have hjn : j < n := Nat.lt_of_not_le fun h => absurd hj (tail_waits hs hc hn inv _ i rfl hin hun j h)
    refine ⟨hjn, ?_⟩
    by_cases hji : j = i
    · subst hji; exact hy.qOp hi H
    · have h1 := (H.2 j (ready_mono hj hji)).2
      obtain ⟨hjun, oj, hoj, hall⟩ := mem_ready.1 hj
      have hnot : ∀ e ∈ oj.after, Region.binds md e = true → e.on ≠ i := by
        intro e he hb heq
        have h1 := hall e he hb
        rw [heq, getD_both hun] at h1
        cases h1
      have h2 := qOp_put hoj (hfree j oj hoj hji hjun hnot) (fun cs b => hsel i oi cs b hi) (fun cs b => hsel j oj cs b hoj) hy h1
      refine qOp_mono (fun a' h3 => ih (listed.setIfInBounds j true) a' (inv.set hj hjn) ?_ (ready_mono hr (Ne.symm hji)) h3.1 ?_) h2
      · intro k ok hk hki hun2 hno
        refine hfree k ok hk hki ?_ hno
        by_cases hjk : j = k
        · subst hjk; exact hjun
        · rwa [getD_set_ne true hjk] at hun2
      · rw [Array.setIfInBounds_comm _ _ hji]
        exact h3.2

theorem heads_lex {n g : Nat} {Lq : Act → Prop} (hsel : Region.noSelect ops = true) (hs : Region.sinkB md ops n = true) (hc : Region.chainB md ops n = true) (hn : n < ops.size) :
    ∀ (l : List Oper) (k : Nat) (listed : Array Bool) (a : Act), (∀ j, j < l.length → l[j]? = ops[k + j]?) → k + l.length = n → HeadInv md ops n listed →
    Region.lexHead md ops g l.length k listed = true → wpQuiet P ops C Lq l a →
    headsIn P md ops C n (fun listed' a' => Region.seqB md ops g n listed' = true ∧ Lq a') l.length listed a := by
  intro l
  induction l with
  | nil =>
    intro k listed a _ hk _ hB h
    obtain rfl : k = n := by simpa using hk
    exact ⟨by simpa [Region.lexHead] using hB, h⟩
  | cons o l ih =>
    intro k listed a hl hk inv hB h
    have h0 : ops[k]? = some o := by simpa using (hl 0 (by simp)).symm
    simp only [List.length_cons, Region.lexHead, Bool.and_eq_true] at hB
    obtain ⟨⟨hr, hf⟩, hB'⟩ := hB
    have hkn : k < n := by simp only [List.length_cons] at hk; omega
    have hr' : k ∈ Region.ready md ops listed := by simpa using hr
    have hq : qOp P ops C k (wpQuiet P ops C Lq l) a := by unfold qOp; simp only [h0]; exact h
    obtain ⟨v, hy, hK⟩ := yieldsIn_of_qOp h0 hq
    refine heads_first h0 (Region.noSelect_spec hsel) hs hc hn hkn (fun listed' a' hL => seqB_ready hL.1) l.length listed a inv (Region.free_spec h0 hf) hr' hy
      (ih (k + 1) _ _ (fun j hj => ?_) (by simp only [List.length_cons] at hk; omega) (inv.set hr' hkn) hB' hK)
    have := hl (j + 1) (by simp; omega)
    simpa [Nat.add_assoc, Nat.add_comm 1 j] using this
end

theorem wp_region_desc_tail {P : Program} {id : Nat} {Q : Exit → Act → World → Prop} {a : Act} {w : World} {l : List Oper} (n : Nat) (hm : P.follows .mixedOrders = true) (hB : Region.lexTailB .any l.toArray n = true)
    (h : wpQuiet P l.toArray (fun w' => ∃ s : Desc w, w' = s.val) (fun a' => ∀ w', (∃ s : Desc w, w' = s.val) → wpList P l.toArray Q (l.drop n) a' w') (l.take n) a) : (Code.region id l.toArray true).wp P Q a w := by
  simp only [Region.lexTailB, Bool.and_eq_true, decide_eq_true_eq] at hB
  obtain ⟨⟨⟨⟨hsel, hn⟩, hs⟩, hc⟩, hlex⟩ := hB
  have hn' : n < l.length := by simpa using hn
  have htl : (l.take n).length = n := by simp; omega
  have hdl : (l.drop n).length = l.toArray.size - n := by simp
  have inv0 : HeadInv .any l.toArray n (Array.replicate l.toArray.size false) :=
    ⟨by simp, fun j oj _ hl => (by rw [getD_replicate_false] at hl; cases hl), fun t _ ht => getD_in (by simpa using ht) (getD_replicate_false _ _)⟩
  have H := heads_lex (C := fun w' => ∃ s : Desc w, w' = s.val) (md := .any) (g := l.toArray.size - n) hsel hs hc hn (l.take n) 0 _ a (fun j hj => by
    rw [htl] at hj
    simp [hj]) (by simpa using htl) inv0 (by rw [htl]; exact hlex) h
  refine wp_region_any hm ?_
  have := any_of_heads (Q' := Q) (g := l.toArray.size - n) (fun listed a' w' hw' hL => by
    have := wpAny_of_seq (md := .any) (Q' := Q) (l.drop n) n listed a' w' (fun j => by simp [List.getElem?_drop]) (by rw [hdl]; exact hL.1) (hL.2 w' hw')
    rwa [hdl] at this) _ _ _ { w with drawn := w.drawn + 1 } ⟨⟨_, (Below.refl _ _).drew⟩, rfl⟩ H
  rw [htl, show n + (l.toArray.size - n) = l.toArray.size from by omega] at this
  exact this

/- Contracts of the fractions of package market: plus, minus, times, over, less. -/

/-- A sum, by the parts of the denominators. -/
theorem plus_law (p q : Rat) {g : Int} (hg : g = Int.gcd p.den q.den) :
    Rat.divInt (p.num * ((q.den : Int) / g) + q.num * ((p.den : Int) / g)) ((p.den : Int) / g * q.den) = p + q ∧ 0 < g ∧ 0 < (p.den : Int) / g ∧ (p.den : Int) / g ≤ p.den ∧ 0 < (q.den : Int) / g ∧ (q.den : Int) / g ≤ q.den := by
  have hp := den_pos p
  have hq := den_pos q
  have hg0 : 0 < g := by rw [hg]; exact gcd_pos hq
  obtain ⟨x, hx⟩ : g ∣ (p.den : Int) := by rw [hg]; exact Int.gcd_dvd_left ..
  obtain ⟨y, hy⟩ : g ∣ (q.den : Int) := by rw [hg]; exact Int.gcd_dvd_right ..
  have ex : (p.den : Int) / g = x := by rw [hx]; exact Int.mul_ediv_cancel_left _ (by omega)
  have ey : (q.den : Int) / g = y := by rw [hy]; exact Int.mul_ediv_cancel_left _ (by omega)
  have hx0 : 0 < x := Int.pos_of_mul_pos_right (by rw [← hx]; exact hp) hg0
  have hy0 : 0 < y := Int.pos_of_mul_pos_right (by rw [← hy]; exact hq) hg0
  rw [ex, ey]
  refine ⟨?_, hg0, hx0, ?_, hy0, ?_⟩
  · rw [← add_divInt p q]
    have e1 : p.num * (q.den : Int) + q.num * (p.den : Int) = g * (p.num * y + q.num * x) := by rw [hx, hy]; grind
    have e2 : (p.den : Int) * (q.den : Int) = g * (x * (q.den : Int)) := by rw [hx]; grind
    rw [e1, e2, Rat.divInt_mul_left (by omega)]
  · rw [hx]
    have := Int.mul_le_mul_of_nonneg_right (show (1 : Int) ≤ g by omega) (show 0 ≤ x by omega)
    omega
  · rw [hy]
    have := Int.mul_le_mul_of_nonneg_right (show (1 : Int) ≤ g by omega) (show 0 ≤ y by omega)
    omega
/-- A factor made smaller. -/
theorem mul_shrink {a b c m : Int} (h1 : -m ≤ a * b) (h2 : a * b ≤ m) (hc : 0 ≤ c) (hcb : c ≤ b) : -m ≤ a * c ∧ a * c ≤ m := by
  rcases Int.le_total 0 a with h | h
  · have h3 := Int.mul_le_mul_of_nonneg_left hcb h
    have h4 := Int.mul_nonneg h hc
    omega
  · have h3 := Int.mul_le_mul_of_nonneg_left hcb (show 0 ≤ -a by omega)
    have h4 := Int.mul_nonneg (show 0 ≤ -a by omega) hc
    rw [Int.neg_mul, Int.neg_mul] at *
    omega
set_option maxRecDepth 100000 in
set_option maxHeartbeats 1600000 in
theorem mplus_raw (p q : Rat) (w : World) (h1 : -4000000000000000000 ≤ p.num * q.den) (h2 : p.num * q.den ≤ 4000000000000000000) (h3 : -4000000000000000000 ≤ q.num * p.den) (h4 : q.num * p.den ≤ 4000000000000000000) (h5 : (p.den : Int) * q.den ≤ 4000000000000000000) (h6 : (p.den : Int) ≤ 4000000000000000000) (h7 : (q.den : Int) ≤ 4000000000000000000) :
    Calls Try.prog 48 #[fr p, fr q] w fun e w' => e = .returned (fr (p + q)) ∧ Below w.heap.size w w' := by
  obtain ⟨g, hg⟩ : ∃ g : Int, g = Int.gcd p.den q.den := ⟨_, rfl⟩
  obtain ⟨l1, l2, l3, l4, l5, l6⟩ := plus_law p q hg
  have hp := den_pos p
  have hq := den_pos q
  have m1 := mul_shrink h1 h2 (Int.le_of_lt l5) l6
  have m2 := mul_shrink h3 h4 (Int.le_of_lt l3) l4
  have m3 : (p.den : Int) / g * q.den ≤ 4000000000000000000 := Int.le_trans (Int.mul_le_mul_of_nonneg_right l4 (by omega)) h5
  have m4 : 0 < (p.den : Int) / g * q.den := Int.mul_pos l3 hq
  obtain ⟨x, hx⟩ : ∃ x : Int, x = (p.den : Int) / g := ⟨_, rfl⟩
  obtain ⟨y, hy⟩ : ∃ y : Int, y = (q.den : Int) / g := ⟨_, rfl⟩
  rw [← hx] at l1 l3 l4 m2 m3 m4
  rw [← hy] at l1 l5 l6 m1
  obtain ⟨a, ha⟩ : ∃ a, a = p.num := ⟨_, rfl⟩
  obtain ⟨b, hb⟩ : ∃ b, b = q.num := ⟨_, rfl⟩
  obtain ⟨c, hc⟩ : ∃ c : Int, c = (p.den : Int) := ⟨_, rfl⟩
  obtain ⟨d, hd⟩ : ∃ d : Int, d = (q.den : Int) := ⟨_, rfl⟩
  obtain ⟨r, hr⟩ : ∃ r, r = p + q := ⟨_, rfl⟩
  have e1 : fr p = .agg #[.int .i64 a, .int .i64 c] := by rw [ha, hc]; rfl
  have e2 : fr q = .agg #[.int .i64 b, .int .i64 d] := by rw [hb, hd]; rfl
  rw [e1, e2, ← hr]
  rw [← ha, ← hb, ← hd, ← hr] at l1
  rw [← ha] at m1
  rw [← hb] at m2
  rw [← hc] at hp l4 hx h6
  rw [← hd] at hq l6 m3 m4 hy h7
  obtain ⟨s, hs⟩ : ∃ s, s = a * y := ⟨_, rfl⟩
  obtain ⟨t, ht⟩ : ∃ t, t = b * x := ⟨_, rfl⟩
  obtain ⟨u, hu⟩ : ∃ u, u = x * d := ⟨_, rfl⟩
  rw [← hs] at l1 m1
  rw [← ht] at l1 m2
  rw [← hu] at l1 m3 m4
  have HG : Hid ((Int.gcd c d : Int) = g) := Lib.hid (by rw [hc, hd, hg])
  have HL := Lib.hid l1
  clear h1 h2 h3 h4 h5 l1 e1 e2 ha hb hc hd hr hg
  go_enter Try.func48, Try.ntmps48
  go_wp2_with fail
  refine (mgcd_any c d _ (by omega) (by omega) (by omega) (by omega)).mono ?_
  rintro e w' ⟨rfl, n, rfl⟩
  rw [HG.out]
  generalize hW : World.drewN _ n = w1
  have B1 : Blk w1 w.heap.size 77 #[.int .i64 a, .int .i64 c] := by rw [← hW]; exact (((Blk.new _ _ _ rfl).alloc _).alloc _).drewN n
  have B2 : Blk w1 (w.heap.size + 1) 77 #[.int .i64 b, .int .i64 d] := by rw [← hW]; exact ((Blk.new _ _ _ (by simp)).alloc _).drewN n
  have B3 : Blk w1 (w.heap.size + 1 + 1) 77 #[.int .i64 0, .int .i64 0] := by rw [← hW]; exact (Blk.new _ _ _ (by simp)).drewN n
  have HB : Below w.heap.size w w1 := by rw [← hW]; exact below_drewN ((((Below.refl _ _).alloc (Nat.le_refl _) _).alloc (by go_size) _).alloc (by go_size) _) n
  clear hW
  have hz := B3.lt
  obtain ⟨a1, a2, _, _⟩ := B1.at2
  obtain ⟨b1, b2, _, _⟩ := B2.at2
  have d1 : ∀ s : Desc w1, s.val.cell? ⟨w.heap.size, 0, none⟩ = some (.int .i64 a) := fun s => s.cell a1
  have d2 : ∀ s : Desc w1, s.val.cell? ⟨w.heap.size, 1, none⟩ = some (.int .i64 c) := fun s => s.cell a2
  have d3 : ∀ s : Desc w1, s.val.cell? ⟨w.heap.size + 1, 0, none⟩ = some (.int .i64 b) := fun s => s.cell b1
  have d4 : ∀ s : Desc w1, s.val.cell? ⟨w.heap.size + 1, 1, none⟩ = some (.int .i64 d) := fun s => s.cell b2
  have q0 : (g == 0) = false := by simp; omega
  have q1 : c.tdiv g = x := by rw [hx, Int.tdiv_eq_ediv_of_nonneg (by omega)]
  have q2 : d.tdiv g = y := by rw [hy, Int.tdiv_eq_ediv_of_nonneg (by omega)]
  have q1' : c / g = x := hx.symm
  have q2' : d / g = y := hy.symm
  have v1 : IntKind.i64.wrap x = x := IntWalk.i64_in _ (by omega)
  have v2 : IntKind.i64.wrap y = y := IntWalk.i64_in _ (by omega)
  have v3 : a * y = s := hs.symm
  have v4 : b * x = t := ht.symm
  have v5 : IntKind.i64.wrap s = s := IntWalk.i64_in _ (by omega)
  have v6 : IntKind.i64.wrap t = t := IntWalk.i64_in _ (by omega)
  have v7 : IntKind.i64.wrap (s + t) = s + t := IntWalk.i64_in _ (by omega)
  have v8 : x * d = u := hu.symm
  have v9 : IntKind.i64.wrap u = u := IntWalk.i64_in _ (by omega)
  have HLOW : Hid (∀ sd : Desc w1, Calls Try.prog 65 #[.agg #[.int .i64 (s + t), .int .i64 u]] sd.val fun e w'' => e = .returned (.agg #[.int .i64 r.num, .int .i64 (r.den : Int)]) ∧ ∃ s' : Desc w1, w'' = s'.val) := Lib.hid fun sd =>
    Calls.desc_of ((mlowest_any (s + t) u _ (by omega) (by omega) (by omega) (by omega)).mono fun e w' h => ⟨by rw [h.1, HL.out]; rfl, h.2⟩)
  have H := Lib.hid (And.intro HB B3)
  clear a1 a2 b1 b2 B1 B2 B3 HB hx hy hs ht hu HL HG
  go_wp2_with fail
  refine wp_region_desc_tail 24 (by kernel_rfl) (by kernel_rfl) ?_
  simp only [List.take_succ_cons, List.take_zero, List.drop_succ_cons, List.drop_zero]
  repeat (go_big_quiet_step (first | (go_at_call 65; exact HLOW.out _)))
  refine wpQuiet_nil ?_
  rintro _ ⟨sd, rfl⟩
  have hb3 := sd.below
  generalize sd.val = w4 at hb3 ⊢
  have B4 := H.out.2.below hb3 hz
  have hb4 := H.out.1.trans (hb3.mono H.out.1.size)
  obtain ⟨c0, c1, f0, f1⟩ := B4.at2
  have HB4 := Lib.hid hb4
  clear d1 d2 d3 d4 hb3 B4 hb4
  go_wp2_with fail
  exact bodyPost_ret (v := fr r) (by simp [results, Try.results48, go_sem, fr, c0, c1]) rfl ⟨rfl, (HB4.out.setCell (by go_size) _).setCell (by go_size) _⟩

theorem neg_fr (q : Rat) : fr (-q) = .agg #[.int .i64 (-q.num), .int .i64 (q.den : Int)] := rfl
set_option maxRecDepth 100000 in
set_option maxHeartbeats 1600000 in
theorem mminus_raw (p q : Rat) (w : World) (h1 : -4000000000000000000 ≤ p.num * q.den) (h2 : p.num * q.den ≤ 4000000000000000000) (h3 : -4000000000000000000 ≤ q.num * p.den) (h4 : q.num * p.den ≤ 4000000000000000000) (h5 : (p.den : Int) * q.den ≤ 4000000000000000000) (h6 : (p.den : Int) ≤ 4000000000000000000) (h7 : (q.den : Int) ≤ 4000000000000000000) (h8 : -4000000000000000000 ≤ q.num) :
    Calls Try.prog 71 #[fr p, fr q] w fun e w' => e = .returned (fr (p - q)) ∧ Below w.heap.size w w' := by
  have HP := Lib.hid fun w => mplus_raw p (-q) w h1 h2 (by show _ ≤ -q.num * (p.den : Int); rw [Int.neg_mul]; omega) (by show -q.num * (p.den : Int) ≤ _; rw [Int.neg_mul]; omega) h5 h6 h7
  rw [neg_fr, show p + -q = p - q from (Rat.sub_eq_add_neg p q).symm] at HP
  obtain ⟨r, hr⟩ : ∃ r, r = p - q := ⟨_, rfl⟩
  rw [← hr] at HP ⊢
  have hqb : q.num ≤ 9000000000000000000 := by
    have hp := den_pos p
    rcases Int.le_total 0 q.num with h | h
    · have := Int.mul_le_mul_of_nonneg_left (show (1 : Int) ≤ (p.den : Int) by omega) h
      omega
    · omega
  clear h1 h2 h3 h4 h5 h6 h7 hr
  unfold fr at HP ⊢
  go_enter Try.func71, Try.ntmps71
  go_wp2_with fail
  refine (HP.out _).mono ?_
  rintro e w' ⟨rfl, hb⟩
  have hB : Blk w' (w.heap.size + 1 + 1) 77 #[.int .i64 0, .int .i64 0] := (Blk.new _ _ _ (by simp)).below hb (by simp)
  obtain ⟨c0, c1, f0, f1⟩ := hB.at2
  have HB := Lib.hid hb
  clear hb hB
  go_wp2
  refine bodyPost_ret (v := fr r) (by simp [results, Try.results71, go_sem, fr, c0, c1]) rfl ⟨rfl, ?_⟩
  exact ((((((Below.refl _ _).alloc (by go_size) _).alloc (by go_size) _).alloc (by go_size) _).trans (HB.out.mono (by go_size))).setCell (by go_size) _).setCell (by go_size) _

theorem field0 (a b : Int) (w : World) : (Instr.field 77 (.agg #[.int .i64 a, .int .i64 b]) 0).run Try.prog w = .ok (.int .i64 a) w := by kernel_rfl
theorem less_zero (p q : Rat) : decide ((p - q).num < 0) = decide (p < q) := by
  rw [decide_eq_decide]
  have h := Rat.num_nonneg (q := p - q)
  have h2 : 0 ≤ p - q ↔ ¬ p < q := by grind
  rw [h2] at h
  by_cases h3 : p < q
  · have h4 : ¬ 0 ≤ (p - q).num := fun h5 => h.1 h5 h3
    exact ⟨fun _ => h3, fun _ => by omega⟩
  · have h4 := h.2 h3
    exact ⟨fun h5 => by omega, fun h5 => absurd h5 h3⟩
set_option maxRecDepth 100000 in
set_option maxHeartbeats 1600000 in
theorem mless_raw (p q : Rat) (w : World) (h1 : -4000000000000000000 ≤ p.num * q.den) (h2 : p.num * q.den ≤ 4000000000000000000) (h3 : -4000000000000000000 ≤ q.num * p.den) (h4 : q.num * p.den ≤ 4000000000000000000) (h5 : (p.den : Int) * q.den ≤ 4000000000000000000) (h6 : (p.den : Int) ≤ 4000000000000000000) (h7 : (q.den : Int) ≤ 4000000000000000000) (h8 : -4000000000000000000 ≤ q.num) :
    Calls Try.prog 66 #[fr p, fr q] w fun e w' => e = .returned (.bool (decide (p < q))) ∧ Below w.heap.size w w' := by
  have HP := Lib.hid fun w => mminus_raw p q w h1 h2 h3 h4 h5 h6 h7 h8
  have HL := Lib.hid (less_zero p q)
  obtain ⟨r, hr⟩ : ∃ r, r = p - q := ⟨_, rfl⟩
  rw [← hr] at HP HL
  clear h1 h2 h3 h4 h5 h6 h7 h8 hr
  rw [← HL.out]
  unfold fr at HP ⊢
  go_enter Try.func66, Try.ntmps66
  go_wp2_with fail
  refine (HP.out _).mono ?_
  rintro e w' ⟨rfl, hb⟩
  have HB := Lib.hid hb
  clear hb
  have hf := field0 r.num (r.den : Int)
  go_wp2
  go_ret
  exact ⟨rfl, ((((Below.refl _ _).alloc (by go_size) _).alloc (by go_size) _).trans (HB.out.mono (by go_size)))⟩

theorem num_low {a b : Int} (hb : 0 < b) (h : Int.gcd a b = 1) : (Rat.divInt a b).num = a ∧ ((Rat.divInt a b).den : Int) = b := by
  have h1 := div_num (a := a) hb
  have h2 := div_den (a := a) hb
  rw [h] at h1 h2
  simp at h1 h2
  exact ⟨h1.symm, h2.symm⟩
theorem dvd_num {a b : Int} (hb : 0 < b) : (Rat.divInt a b).num ∣ a ∧ ((Rat.divInt a b).den : Int) ∣ b := by
  rw [← div_num hb, ← div_den hb]
  constructor
  · rw [Int.tdiv_eq_ediv_of_dvd (Int.gcd_dvd_left ..)]
    exact Int.ediv_dvd_of_dvd (Int.gcd_dvd_left ..)
  · rw [Int.tdiv_eq_ediv_of_dvd (Int.gcd_dvd_right ..)]
    exact Int.ediv_dvd_of_dvd (Int.gcd_dvd_right ..)
theorem abs_divInt {a b : Int} (hb : 0 < b) : (Rat.divInt a b).num.natAbs ≤ a.natAbs := by
  rw [← div_num hb, Int.natAbs_tdiv]; exact Nat.div_le_self _ _
/-- A product, parted before it is multiplied. -/
theorem times_law (p q : Rat) : (Rat.divInt p.num q.den).num * (Rat.divInt q.num p.den).num = (p * q).num ∧ ((Rat.divInt p.num q.den).den : Int) * ((Rat.divInt q.num p.den).den : Int) = ((p * q).den : Int) := by
  have hp := den_pos p
  have hq := den_pos q
  obtain ⟨x, hx⟩ : ∃ x, x = Rat.divInt p.num q.den := ⟨_, rfl⟩
  obtain ⟨y, hy⟩ : ∃ y, y = Rat.divInt q.num p.den := ⟨_, rfl⟩
  have dx := dvd_num (a := p.num) hq
  have dy := dvd_num (a := q.num) hp
  rw [← hx] at dx ⊢
  rw [← hy] at dy ⊢
  have e : Rat.divInt (x.num * y.num) ((x.den : Int) * (y.den : Int)) = p * q := by
    rw [mul_divInt, hx, hy, Rat.divInt_mul_divInt, ← mul_divInt, Int.mul_comm (q.den : Int)]
  have hg : Int.gcd (x.num * y.num) ((x.den : Int) * (y.den : Int)) = 1 := by
    have c1 : Int.gcd x.num x.den = 1 := rat_lowest x
    have c2 : Int.gcd y.num y.den = 1 := rat_lowest y
    have cp : Int.gcd p.num p.den = 1 := rat_lowest p
    have cq : Int.gcd q.num q.den = 1 := rat_lowest q
    have c3 : Int.gcd x.num y.den = 1 := by
      have h1 : (Int.gcd x.num y.den : Int) ∣ p.num := Int.dvd_trans (Int.gcd_dvd_left ..) dx.1
      have h2 : (Int.gcd x.num y.den : Int) ∣ (p.den : Int) := Int.dvd_trans (Int.gcd_dvd_right ..) dy.2
      have h3 := Int.dvd_gcd h1 h2
      rw [cp] at h3
      exact Nat.dvd_one.1 (by exact_mod_cast h3)
    have c4 : Int.gcd y.num x.den = 1 := by
      have h1 : (Int.gcd y.num x.den : Int) ∣ q.num := Int.dvd_trans (Int.gcd_dvd_left ..) dy.1
      have h2 : (Int.gcd y.num x.den : Int) ∣ (q.den : Int) := Int.dvd_trans (Int.gcd_dvd_right ..) dx.2
      have h3 := Int.dvd_gcd h1 h2
      rw [cq] at h3
      exact Nat.dvd_one.1 (by exact_mod_cast h3)
    show Nat.gcd (x.num * y.num).natAbs ((x.den : Int) * (y.den : Int)).natAbs = 1
    rw [Int.natAbs_mul, Int.natAbs_mul]
    exact Nat.Coprime.mul_right (Nat.Coprime.mul_left c1 c4) (Nat.Coprime.mul_left c3 c2)
  have := num_low (Int.mul_pos (den_pos x) (den_pos y)) hg
  rw [e] at this
  exact ⟨this.1.symm, this.2.symm⟩

/- A region that draws its order: operations that read, or call what makes memory of its own and hands back plain values; makings of variables, whose addresses nobody knows ahead; and then, waiting for all of them, a few in one forced order. No program. -/

/-- A world that came of w, in which these blocks are new and hold z. -/
structure DescA (w : World) (T : TypeId) (z : Array Value) (A : Nat → Prop) where
  val : World
  below : Below w.heap.size w val
  blks : ∀ b, A b → w.heap.size ≤ b ∧ Blk val b T z
def DescA.none (w : World) (T : TypeId) (z : Array Value) : DescA w T z (fun _ => False) := ⟨w, Below.refl _ _, fun _ h => h.elim⟩
def ins (b : Nat) (A : Nat → Prop) : Nat → Prop := fun x => x = b ∨ A x
theorem ins_comm (b c : Nat) (A : Nat → Prop) : ins b (ins c A) = ins c (ins b A) := by
  funext x
  apply propext
  unfold ins
  constructor
  · rintro (h | h | h)
    · exact .inr (.inl h)
    · exact .inl h
    · exact .inr (.inr h)
  · rintro (h | h | h)
    · exact .inr (.inl h)
    · exact .inl h
    · exact .inr (.inr h)
section
variable {w : World} {T : TypeId} {z : Array Value} {A : Nat → Prop}
theorem DescA.cell (s : DescA w T z A) {p : Addr} {v : Value} (h : w.cell? p = some v) : s.val.cell? p = some v := (s.below.cell (lt_of_cell h)).trans h
theorem Calls.descA_of {P : Program} {f : FuncId} {args : Array Value} {s : DescA w T z A} {v : Value}
    (h : Calls P f args s.val fun e w' => e = .returned v ∧ Below s.val.heap.size s.val w') : Calls P f args s.val fun e w'' => e = .returned v ∧ ∃ s' : DescA w T z A, w'' = s'.val :=
  h.mono fun _ w' ⟨he, hb⟩ => ⟨he, ⟨w', s.below.trans (hb.mono s.below.size), fun b hA => ⟨(s.blks b hA).1, (s.blks b hA).2.below hb (s.blks b hA).2.lt⟩⟩, rfl⟩
end

def ptrB (b : Nat) : Value := .pointer (some ⟨b, 0, none⟩)
/-- Is it the making of a variable of type T? -/
def isAl (T : TypeId) (o : Oper) : Bool :=
  match o.op with
  | .alloc t => t == T && o.guard.isNone
  | _ => false

section
variable {P : Program} {ops : Array Oper} {w : World} {T : TypeId} {z : Array Value}
abbrev CA (w : World) (T : TypeId) (z : Array Value) (A : Nat → Prop) : World → Prop := fun w' => ∃ s : DescA w T z A, w' = s.val
/-- One value, whichever variables have been made. -/
def YF (P : Program) (ops : Array Oper) (w : World) (T : TypeId) (z : Array Value) (o : Oper) (v : Value) (a : Act) : Prop := ∀ A, YieldsIn P ops (CA w T z A) o v a
def headsG (P : Program) (ops : Array Oper) (w : World) (T : TypeId) (z : Array Value) (N : Nat) (L : Array Bool → (Nat → Prop) → Act → Prop) : Nat → Array Bool → (Nat → Prop) → Act → Prop
  | 0, listed, A, a => L listed A a
  | f + 1, listed, A, a => Region.ready .any ops listed ≠ [] ∧ ∀ i ∈ Region.ready .any ops listed, i < N ∧ ∃ o, ops[i]? = some o ∧
      if isAl T o then ∀ b, ¬ A b → headsG P ops w T z N L f (listed.setIfInBounds i true) (ins b A) (a.put o.dst (ptrB b))
      else ∃ v, YF P ops w T z o v a ∧ headsG P ops w T z N L f (listed.setIfInBounds i true) A (a.put o.dst v)

theorem any_of_headsG {N g : Nat} {L : Array Bool → (Nat → Prop) → Act → Prop} {Q' : Exit → Act → World → Prop}
    (hal : ∀ (o : Oper) (a : Act) (w' : World) (K : Act → World → Prop), isAl T o = true → K (a.put o.dst (ptrB w'.heap.size)) (w'.alloc (.cells z T)) → o.wp P a w' K Q')
    (hL : ∀ listed A a w', CA w T z A w' → L listed A a → wpAny P .any ops Q' g listed a w') (f : Nat) :
    ∀ (listed : Array Bool) (A : Nat → Prop) (a : Act) (w' : World), CA w T z A w' → headsG P ops w T z N L f listed A a → wpAny P .any ops Q' (f + g) listed a w' := by
  induction f with
  | zero => intro listed A a w' hw h; rw [Nat.zero_add]; exact hL _ _ _ _ hw h
  | succ f ih =>
    intro listed A a w' hw h
    rw [show f + 1 + g = (f + g) + 1 from by omega]
    refine ⟨fun h0 => absurd h0 h.1, fun i hi => ?_⟩
    obtain ⟨_, o, ho, hs⟩ := h.2 i hi
    by_cases hA : isAl T o = true
    · rw [if_pos hA] at hs
      have hg : o.guard = none := by
        unfold isAl at hA
        split at hA
        · simp only [Bool.and_eq_true, Option.isNone_iff_eq_none] at hA; exact hA.2
        · cases hA
      unfold wpOp
      simp only [ho]
      rw [if_pos (by unfold Region.wanted; rw [hg])]
      obtain ⟨s, rfl⟩ := hw
      refine .inl (hal o a s.val _ hA ?_)
      refine ih _ (ins s.val.heap.size A) _ _ ⟨⟨s.val.alloc (.cells z T), s.below.alloc s.below.size _, fun b hb => ?_⟩, rfl⟩ (hs _ fun hAb => ?_)
      · rcases hb with rfl | hb
        · exact ⟨s.below.size, Blk.new _ _ _ rfl⟩
        · exact ⟨(s.blks b hb).1, (s.blks b hb).2.alloc _⟩
      · exact absurd (s.blks _ hAb).2.lt (by omega)
    · rw [if_neg hA] at hs
      obtain ⟨v, hy, hK⟩ := hs
      exact wpOp_of_qOp (C := CA w T z A) (K := headsG P ops w T z N L f (listed.setIfInBounds i true) A) hw (fun a' w'' hw' h' => ih _ _ a' w'' hw' h') ((hy A).qOp ho hK)

theorem YF.put {o : Oper} {v : Value} {a : Act} (hy : YF P ops w T z o v a) (hs : ∀ cs b, o.op ≠ .select cs b) (d : Option Tmp) (u : Value) (h : ∀ t, d = some t → t ∉ o.looksAt ops) : YF P ops w T z o v (a.put d u) :=
  fun A => (hy A).of_same (execOp_put o hs a d u h) (wanted_put o a d u h)
theorem YF.unput {o : Oper} {v : Value} {a : Act} (hs : ∀ cs b, o.op ≠ .select cs b) (d : Option Tmp) (u : Value) (h : ∀ t, d = some t → t ∉ o.looksAt ops) (hy : YF P ops w T z o v (a.put d u)) : YF P ops w T z o v a :=
  fun A => (hy A).of_same (execOp_put o hs a d u h).symm (wanted_put o a d u h).symm

theorem headsG_plain {N i : Nat} {oi : Oper} {v : Value} {L : Array Bool → (Nat → Prop) → Act → Prop} (hi : ops[i]? = some oi) (hpl : isAl T oi = false) (hsel : ∀ (j : Nat) (o : Oper) cs b, ops[j]? = some o → o.op ≠ .select cs b)
    (hs : Region.sinkB .any ops N = true) (hc : Region.chainB .any ops N = true) (hn : N < ops.size) (hin : i < N)
    (hdone : ∀ listed A a, L listed A a → ∀ j ∈ Region.ready .any ops listed, N ≤ j) (f : Nat) :
    ∀ (listed : Array Bool) (A : Nat → Prop) (a : Act), HeadInv .any ops N listed →
      (∀ j oj, ops[j]? = some oj → j ≠ i → listed.getD j true = false → (∀ e ∈ oj.after, Region.binds .any e = true → e.on ≠ i) → oi.apart ops oj = true) →
      i ∈ Region.ready .any ops listed → YF P ops w T z oi v a →
      headsG P ops w T z N L f (listed.setIfInBounds i true) A (a.put oi.dst v) → headsG P ops w T z N L (f + 1) listed A a := by
  induction f with
  | zero =>
    intro listed A a inv _ hr hy H
    have hun := (mem_ready.1 hr).1
    refine ⟨List.ne_nil_of_mem hr, fun j hj => ?_⟩
    have hjn : j < N := Nat.lt_of_not_le fun h => absurd hj (tail_waits hs hc hn inv _ i rfl hin hun j h)
    refine ⟨hjn, ?_⟩
    by_cases hji : j = i
    · subst hji; exact ⟨oi, hi, by rw [if_neg (by rw [hpl]; simp)]; exact ⟨v, hy, H⟩⟩
    · have := hdone _ _ _ H j (ready_mono hj hji)
      omega
  | succ f ih =>
    intro listed A a inv hfree hr hy H
    have hun := (mem_ready.1 hr).1
    refine ⟨List.ne_nil_of_mem hr, fun j hj => ?_⟩
    have hjn : j < N := Nat.lt_of_not_le fun h => absurd hj (tail_waits hs hc hn inv _ i rfl hin hun j h)
    refine ⟨hjn, ?_⟩
    by_cases hji : j = i
    · subst hji; exact ⟨oi, hi, by rw [if_neg (by rw [hpl]; simp)]; exact ⟨v, hy, H⟩⟩
    · obtain ⟨_, oj, hoj, h1⟩ := H.2 j (ready_mono hj hji)
      obtain ⟨hjun, oj', hoj', hall⟩ := mem_ready.1 hj
      obtain rfl : oj' = oj := by rw [hoj] at hoj'; injection hoj' with h; exact h.symm
      have hnot : ∀ e ∈ oj'.after, Region.binds .any e = true → e.on ≠ i := by
        intro e he hb heq
        have h1 := hall e he hb
        rw [heq, getD_both hun] at h1
        cases h1
      obtain ⟨p1, p2, p3⟩ := Oper.apart_spec (hfree j oj' hoj hji hjun hnot)
      have hfree' : ∀ k ok, ops[k]? = some ok → k ≠ i → (listed.setIfInBounds j true).getD k true = false → (∀ e ∈ ok.after, Region.binds .any e = true → e.on ≠ i) → oi.apart ops ok = true := by
        intro k ok hk hki hun2 hno
        refine hfree k ok hk hki ?_ hno
        by_cases hjk : j = k
        · subst hjk; exact hjun
        · rwa [getD_set_ne true hjk] at hun2
      refine ⟨oj', hoj, ?_⟩
      by_cases hA : isAl T oj' = true
      · rw [if_pos hA] at h1 ⊢
        intro b hb
        refine ih _ _ _ (inv.set hj hjn) hfree' (ready_mono hr (Ne.symm hji)) (hy.put (fun cs b => hsel i oi cs b hi) _ _ p3) ?_
        rw [Array.setIfInBounds_comm _ _ hji, ← Act.put_comm a v (ptrB b) p2]
        exact h1 b hb
      · rw [if_neg hA] at h1 ⊢
        obtain ⟨u, hyu, hK⟩ := h1
        refine ⟨u, hyu.unput (fun cs b => hsel j oj' cs b hoj) _ _ p1, ih _ _ _ (inv.set hj hjn) hfree' (ready_mono hr (Ne.symm hji)) (hy.put (fun cs b => hsel i oi cs b hi) _ _ p3) ?_⟩
        rw [Array.setIfInBounds_comm _ _ hji, ← Act.put_comm a v u p2]
        exact hK

theorem headsG_alloc {N i : Nat} {oi : Oper} {L : Array Bool → (Nat → Prop) → Act → Prop} (hi : ops[i]? = some oi) (hpl : isAl T oi = true)
    (hs : Region.sinkB .any ops N = true) (hc : Region.chainB .any ops N = true) (hn : N < ops.size) (hin : i < N)
    (hdone : ∀ listed A a, L listed A a → ∀ j ∈ Region.ready .any ops listed, N ≤ j) (f : Nat) :
    ∀ (listed : Array Bool) (A : Nat → Prop) (a : Act), HeadInv .any ops N listed →
      (∀ j oj, ops[j]? = some oj → j ≠ i → listed.getD j true = false → (∀ e ∈ oj.after, Region.binds .any e = true → e.on ≠ i) → oi.apart ops oj = true) →
      (∀ j oj, j < N → ops[j]? = some oj → listed.getD j true = false → isAl T oj = true) →
      i ∈ Region.ready .any ops listed →
      (∀ b, ¬ A b → headsG P ops w T z N L f (listed.setIfInBounds i true) (ins b A) (a.put oi.dst (ptrB b))) → headsG P ops w T z N L (f + 1) listed A a := by
  induction f with
  | zero =>
    intro listed A a inv _ hall0 hr H
    have hun := (mem_ready.1 hr).1
    refine ⟨List.ne_nil_of_mem hr, fun j hj => ?_⟩
    have hjn : j < N := Nat.lt_of_not_le fun h => absurd hj (tail_waits hs hc hn inv _ i rfl hin hun j h)
    refine ⟨hjn, ?_⟩
    obtain ⟨hjun, oj, hoj, hall⟩ := mem_ready.1 hj
    by_cases hji : j = i
    · subst hji; exact ⟨oi, hi, by rw [if_pos hpl]; exact H⟩
    · refine ⟨oj, hoj, ?_⟩
      rw [if_pos (hall0 j oj hjn hoj hjun)]
      intro b hb
      have := hdone _ _ _ (H b hb) j (ready_mono hj hji)
      omega
  | succ f ih =>
    intro listed A a inv hfree hall0 hr H
    have hun := (mem_ready.1 hr).1
    refine ⟨List.ne_nil_of_mem hr, fun j hj => ?_⟩
    have hjn : j < N := Nat.lt_of_not_le fun h => absurd hj (tail_waits hs hc hn inv _ i rfl hin hun j h)
    refine ⟨hjn, ?_⟩
    obtain ⟨hjun, oj, hoj, hall⟩ := mem_ready.1 hj
    by_cases hji : j = i
    · subst hji; exact ⟨oi, hi, by rw [if_pos hpl]; exact H⟩
    · have hnot : ∀ e ∈ oj.after, Region.binds .any e = true → e.on ≠ i := by
        intro e he hb heq
        have h1 := hall e he hb
        rw [heq, getD_both hun] at h1
        cases h1
      obtain ⟨p1, p2, p3⟩ := Oper.apart_spec (hfree j oj hoj hji hjun hnot)
      have hAj := hall0 j oj hjn hoj hjun
      refine ⟨oj, hoj, ?_⟩
      rw [if_pos hAj]
      intro b' hb'
      refine ih _ _ _ (inv.set hj hjn) ?_ ?_ (ready_mono hr (Ne.symm hji)) fun b hb => ?_
      · intro k ok hk hki hun2 hno
        refine hfree k ok hk hki ?_ hno
        by_cases hjk : j = k
        · subst hjk; exact hjun
        · rwa [getD_set_ne true hjk] at hun2
      · intro k ok hkN hk hun2
        refine hall0 k ok hkN hk ?_
        by_cases hjk : j = k
        · subst hjk; exact hjun
        · rwa [getD_set_ne true hjk] at hun2
      · have hbA : ¬ A b := fun h => hb (.inr h)
        obtain ⟨_, oj2, hoj2, h1⟩ := (H b hbA).2 j (ready_mono hj hji)
        obtain rfl : oj2 = oj := by rw [hoj] at hoj2; injection hoj2 with h; exact h.symm
        rw [if_pos hAj] at h1
        have h2 := h1 b' (fun h => by
          rcases h with h | h
          · exact hb (.inl h.symm)
          · exact hb' h)
        rw [Array.setIfInBounds_comm _ _ hji, ins_comm, ← Act.put_comm a (ptrB b) (ptrB b') p2]
        exact h2
end

/- The law of a region that draws its order and makes variables, ready for a walk. No program. -/

section
variable {P : Program} {ops : Array Oper} {w : World} {T : TypeId} {z : Array Value}
theorem put_size (a : Act) (d : Option Tmp) (v : Value) : (a.put d v).tmps.size = a.tmps.size := by
  cases d <;> simp [Act.put]
theorem put_other (a : Act) (d : Option Tmp) (v : Value) {t : Tmp} (h : d ≠ some t) : (a.put d v).tmps[t]? = a.tmps[t]? := by
  cases d with
  | none => rfl
  | some d =>
    have hne : d ≠ t := fun e => h (by rw [e])
    simp [Act.put, Array.getElem?_setIfInBounds_ne hne]
theorem put_same (a : Act) {d : Tmp} (v : Value) (h : d < a.tmps.size) : (a.put (some d) v).tmps[d]? = some v := by
  simp [Act.put, h]
theorem quiet_vac {C C' : World → Prop} {Q : Act → Prop} (hC : ∀ w, ¬ C' w) : ∀ (l : List Oper) (a : Act), wpQuiet P ops C Q l a → wpQuiet P ops C' Q l a
  | [], _, h => h
  | o :: l, a, h => by
    unfold wpQuiet at h ⊢
    split at h
    · rename_i hw
      obtain ⟨v, _, h2⟩ := h
      rw [if_pos hw]
      exact ⟨v, fun w hw => (hC w hw).elim, quiet_vac hC l _ h2⟩
    · rename_i hw
      rw [if_neg hw]
      exact quiet_vac hC l _ h
/-- What the walk's end says of a temporary that nobody writes. -/
theorem quiet_pin {C : World → Prop} {aF : Act} {t : Tmp} : ∀ (l : List Oper) (a : Act), (∀ o ∈ l, o.dst ≠ some t) → wpQuiet P ops C (fun a' => a' = aF) l a → aF.tmps[t]? = a.tmps[t]?
  | [], a, _, h => by
    have h : a = aF := h
    rw [h]
  | o :: l, a, hd, h => by
    have ho := hd o (List.mem_cons_self ..)
    have hl : ∀ o ∈ l, o.dst ≠ some t := fun o h => hd o (List.mem_cons_of_mem _ h)
    unfold wpQuiet at h
    split at h
    · obtain ⟨v, _, h2⟩ := h
      rw [quiet_pin l _ hl h2, put_other _ _ _ ho]
    · rw [quiet_pin l _ hl h, put_other _ _ _ ho]
/-- Each writes a temporary of its own, and makes no variable. -/
def plainOk (T : TypeId) (sz : Nat) : List Oper → Bool
  | [] => true
  | o :: l => !isAl T o && (match o.dst with
    | some d => decide (d < sz) && l.all fun p => p.dst != some d
    | none => false) && plainOk T sz l
theorem headsG_lex_plain {N n g : Nat} {L : Array Bool → (Nat → Prop) → Act → Prop} {aF : Act} (hsel : Region.noSelect ops = true) (hs : Region.sinkB .any ops N = true) (hc : Region.chainB .any ops N = true) (hn : N < ops.size) (hnN : n ≤ N)
    (hdone : ∀ listed A a, L listed A a → ∀ j ∈ Region.ready .any ops listed, N ≤ j) (A : Nat → Prop)
    (hfin : ∀ listed, HeadInv .any ops N listed → Region.lexHead .any ops g (N - n) n listed = true → (∀ j, j < n → listed.getD j true = true) → headsG P ops w T z N L (N - n) listed A aF) :
    ∀ (l : List Oper) (k : Nat) (listed : Array Bool) (a : Act), (∀ j, j < l.length → l[j]? = ops[k + j]?) → k + l.length = n → HeadInv .any ops N listed → (∀ j, j < k → listed.getD j true = true) →
    Region.lexHead .any ops g (N - k) k listed = true → plainOk T a.tmps.size l = true → (∀ A', wpQuiet P ops (CA w T z A') (fun a' => a' = aF) l a) → headsG P ops w T z N L (N - k) listed A a := by
  intro l
  induction l with
  | nil =>
    intro k listed a _ hk inv hls hB _ h
    obtain rfl : k = n := by simpa using hk
    have h0 : a = aF := h fun _ => False
    rw [h0]
    exact hfin listed inv hB hls
  | cons o l ih =>
    intro k listed a hl hk inv hls hB hp h
    have h0 : ops[k]? = some o := by simpa using (hl 0 (by simp)).symm
    have hkN : k < N := by simp only [List.length_cons] at hk; omega
    obtain ⟨f, hf⟩ : ∃ f, N - k = f + 1 := ⟨N - k - 1, by omega⟩
    have hf2 : N - (k + 1) = f := by omega
    rw [hf] at hB ⊢
    simp only [Region.lexHead, Bool.and_eq_true] at hB
    obtain ⟨⟨hr, hfr⟩, hB'⟩ := hB
    have hr' : k ∈ Region.ready .any ops listed := by simpa using hr
    simp only [plainOk, Bool.and_eq_true, Bool.not_eq_true'] at hp
    obtain ⟨⟨hp1, hp2⟩, hp3⟩ := hp
    obtain ⟨d, hd, hdz, hdl⟩ : ∃ d, o.dst = some d ∧ d < a.tmps.size ∧ ∀ p ∈ l, p.dst ≠ some d := by
      split at hp2
      · rename_i d hd
        simp only [Bool.and_eq_true, decide_eq_true_eq] at hp2
        refine ⟨d, hd, hp2.1, fun p hpm => ?_⟩
        have := List.all_eq_true.1 hp2.2 p hpm
        simpa using this
      · cases hp2
    obtain ⟨v, hv⟩ : ∃ v, aF.tmps[d]? = some v := by
      have := h fun _ => False
      unfold wpQuiet at this
      split at this
      · obtain ⟨v, _, h2⟩ := this
        exact ⟨v, by rw [quiet_pin l _ hdl h2, hd]; exact put_same a v hdz⟩
      · exact ⟨undef, by rw [quiet_pin l _ hdl this, hd]; exact put_same a _ hdz⟩
    have key : ∀ A', YieldsIn P ops (CA w T z A') o v a ∧ wpQuiet P ops (CA w T z A') (fun a' => a' = aF) l (a.put o.dst v) := by
      intro A'
      have h1 := h A'
      unfold wpQuiet at h1
      split at h1
      · rename_i hw
        obtain ⟨u, hu, h2⟩ := h1
        have e := quiet_pin l _ hdl h2
        rw [hd, put_same a u hdz, hv] at e
        injection e with e
        subst e
        exact ⟨.inl ⟨hw, hu⟩, h2⟩
      · rename_i hw
        have e := quiet_pin l _ hdl h1
        rw [hd, put_same a _ hdz, hv] at e
        injection e with e
        subst e
        exact ⟨.inr ⟨by simpa using hw, rfl⟩, h1⟩
    refine headsG_plain h0 hp1 (Region.noSelect_spec hsel) hs hc hn hkN hdone f listed A a inv (Region.free_spec h0 hfr) hr' (fun A' => (key A').1) ?_
    rw [← hf2]
    refine ih (k + 1) _ _ (fun j hj => ?_) (by simp only [List.length_cons] at hk; omega) (inv.set hr' hkN) (fun j hj => ?_) (by rw [hf2]; exact hB') (by rw [put_size]; exact hp3) fun A' => (key A').2
    · have := hl (j + 1) (by simp; omega)
      simpa [Nat.add_assoc, Nat.add_comm 1 j] using this
    · by_cases e : k = j
      · subst e
        have : k < listed.size := by rw [inv.size]; exact (Array.getElem?_eq_some_iff.1 h0).1
        simp [this]
      · rw [getD_set_ne true e]; exact hls j (by omega)
/-- The makings of variables, one behind another, each at an address of its own. -/
def alW (Lq : (Nat → Prop) → Act → Prop) : List Oper → (Nat → Prop) → Act → Prop
  | [], A, a => Lq A a
  | o :: l, A, a => ∀ b, ¬ A b → alW Lq l (ins b A) (a.put o.dst (ptrB b))
theorem headsG_lex_alloc {N g : Nat} {Lq : (Nat → Prop) → Act → Prop} (hs : Region.sinkB .any ops N = true) (hc : Region.chainB .any ops N = true) (hn : N < ops.size) :
    ∀ (l : List Oper) (k : Nat) (listed : Array Bool) (A : Nat → Prop) (a : Act), (∀ j, j < l.length → l[j]? = ops[k + j]?) → k + l.length = N → HeadInv .any ops N listed → (∀ j, j < k → listed.getD j true = true) →
    Region.lexHead .any ops g (N - k) k listed = true → l.all (isAl T) = true → alW Lq l A a → headsG P ops w T z N (fun listed' A' a' => Region.seqB .any ops g N listed' = true ∧ Lq A' a') (N - k) listed A a := by
  intro l
  induction l with
  | nil =>
    intro k listed A a _ hk inv hls hB _ h
    obtain rfl : k = N := by simpa using hk
    rw [Nat.sub_self] at hB ⊢
    exact ⟨by simpa [Region.lexHead] using hB, h⟩
  | cons o l ih =>
    intro k listed A a hl hk inv hls hB hp h
    have h0 : ops[k]? = some o := by simpa using (hl 0 (by simp)).symm
    have hkN : k < N := by simp only [List.length_cons] at hk; omega
    obtain ⟨f, hf⟩ : ∃ f, N - k = f + 1 := ⟨N - k - 1, by omega⟩
    have hf2 : N - (k + 1) = f := by omega
    rw [hf] at hB ⊢
    simp only [Region.lexHead, Bool.and_eq_true] at hB
    obtain ⟨⟨hr, hfr⟩, hB'⟩ := hB
    have hr' : k ∈ Region.ready .any ops listed := by simpa using hr
    simp only [List.all_cons, Bool.and_eq_true] at hp
    refine headsG_alloc h0 hp.1 hs hc hn hkN (fun listed' A' a' hL => seqB_ready hL.1) f listed A a inv (Region.free_spec h0 hfr) ?_ hr' fun b hb => ?_
    · intro j oj hjN hoj hun
      by_cases hjk : j < k
      · rw [hls j hjk] at hun; cases hun
      · have hj2 : j - k < (o :: l).length := by omega
        have e := hl (j - k) hj2
        rw [show k + (j - k) = j by omega, hoj] at e
        have hm := List.mem_of_getElem? e
        rcases List.mem_cons.1 hm with rfl | hm
        · exact hp.1
        · exact List.all_eq_true.1 hp.2 oj hm
    · rw [← hf2]
      refine ih (k + 1) _ _ _ (fun j hj => ?_) (by simp only [List.length_cons] at hk; omega) (inv.set hr' hkN) (fun j hj => ?_) (by rw [hf2]; exact hB') hp.2 (h b hb)
      · have := hl (j + 1) (by simp; omega)
        simpa [Nat.add_assoc, Nat.add_comm 1 j] using this
      · by_cases e : k = j
        · subst e
          have : k < listed.size := by rw [inv.size]; exact (Array.getElem?_eq_some_iff.1 h0).1
          simp [this]
        · rw [getD_set_ne true e]; exact hls j (by omega)
end

theorem wp_region_desc_alloc {P : Program} {id : Nat} {Q : Exit → Act → World → Prop} {a : Act} {w : World} {l : List Oper} (n m : Nat) (T : TypeId) (z : Array Value)
    (hal : ∀ (o : Oper) (a : Act) (w' : World) (K : Act → World → Prop), isAl T o = true → K (a.put o.dst (ptrB w'.heap.size)) (w'.alloc (.cells z T)) → o.wp P a w' K Q)
    (hm : P.follows .mixedOrders = true) (hB : Region.lexTailB .any l.toArray (n + m) = true) (hp : plainOk T a.tmps.size (l.take n) = true) (ha : ((l.drop n).take m).all (isAl T) = true)
    (aF : Act) (h : ∀ A, Nonempty (DescA w T z A) → ∀ Q' : Act → Prop, Q' aF → wpQuiet P l.toArray (fun w' => ∃ s : DescA w T z A, w' = s.val) Q' (l.take n) a)
    (hq : alW (fun A a' => ∀ s : DescA w T z A, wpList P l.toArray Q (l.drop (n + m)) a' s.val) ((l.drop n).take m) (fun _ => False) aF) : (Code.region id l.toArray true).wp P Q a w := by
  simp only [Region.lexTailB, Bool.and_eq_true, decide_eq_true_eq] at hB
  obtain ⟨⟨⟨⟨hsel, hn⟩, hs⟩, hc⟩, hlex⟩ := hB
  have hn' : n + m < l.length := by simpa using hn
  have hdl : (l.drop (n + m)).length = l.toArray.size - (n + m) := by simp
  have inv0 : HeadInv .any l.toArray (n + m) (Array.replicate l.toArray.size false) :=
    ⟨by simp, fun j oj _ hl => (by rw [getD_replicate_false] at hl; cases hl), fun t _ ht => getD_in (by simpa using ht) (getD_replicate_false _ _)⟩
  have hn0 : n + m - 0 = n + m := rfl
  have H := headsG_lex_plain (P := P) (w := w) (T := T) (z := z) (ops := l.toArray) (N := n + m) (n := n) (g := l.toArray.size - (n + m)) (aF := aF)
    (L := fun listed' A' a' => Region.seqB .any l.toArray (l.toArray.size - (n + m)) (n + m) listed' = true ∧ ∀ s : DescA w T z A', wpList P l.toArray Q (l.drop (n + m)) a' s.val)
    hsel hs hc hn (by omega) (fun listed A a hL => seqB_ready hL.1) (fun _ => False)
    (fun listed inv hB2 hls => headsG_lex_alloc hs hc hn ((l.drop n).take m) n listed (fun _ => False) aF (fun j hj => by
      have hj2 : j < m := by simp at hj; omega
      simp [List.getElem?_drop, hj2]) (by simp; omega) inv hls hB2 ha hq)
    (l.take n) 0 (Array.replicate l.toArray.size false) a (fun j hj => by
      have hj2 : j < n := by simp at hj; omega
      simp [hj2]) (by simp; omega) inv0 (fun j hj => by omega) (by rw [hn0]; exact hlex) hp (fun A => by
      by_cases hne : Nonempty (DescA w T z A)
      · exact h A hne _ rfl
      · exact quiet_vac (fun w' ⟨s, _⟩ => hne ⟨s⟩) _ _ (h (fun _ => False) ⟨DescA.none w T z⟩ _ rfl))
  refine wp_region_any hm ?_
  have := any_of_headsG (Q' := Q) (g := l.toArray.size - (n + m)) hal (fun listed A a' w' hw' hL => by
    obtain ⟨s, rfl⟩ := hw'
    have := wpAny_of_seq (md := .any) (Q' := Q) (l.drop (n + m)) (n + m) listed a' s.val (fun j => by simp [List.getElem?_drop]) (by rw [hdl]; exact hL.1) (hL.2 s)
    rwa [hdl] at this) _ _ _ _ { w with drawn := w.drawn + 1 } ⟨⟨_, (Below.refl _ _).drew, fun _ h => h.elim⟩, rfl⟩ H
  rw [hn0, show n + m + (l.toArray.size - (n + m)) = l.toArray.size from by omega] at this
  exact this

/- Contracts of the fractions of package market: times and over. -/

def lowN (a b : Int) : Int := (Rat.divInt a b).num
def lowD (a b : Int) : Int := ((Rat.divInt a b).den : Int)
/-- What lowest may be given. -/
def LowOk (a b : Int) : Prop := -4000000000000000000 ≤ a ∧ a ≤ 4000000000000000000 ∧ 0 < b ∧ b ≤ 4000000000000000000
theorem mlowest_low (a b : Int) (w : World) (h : LowOk a b) : Calls Try.prog 65 #[.agg #[.int .i64 a, .int .i64 b]] w fun e w' => e = .returned (.agg #[.int .i64 (lowN a b), .int .i64 (lowD a b)]) ∧ Below w.heap.size w w' :=
  mlowest_any a b w (by have := h.1; omega) (by have := h.2.1; omega) h.2.2.1 (by have := h.2.2.2; omega)
/-- Making a fraction's variable. -/
theorem al_frac {Q : Exit → Act → World → Prop} (o : Oper) (a : Act) (w' : World) (K : Act → World → Prop) (ho : isAl 77 o = true) (hK : K (a.put o.dst (ptrB w'.heap.size)) (w'.alloc (.cells #[.int .i64 0, .int .i64 0] 77))) : o.wp Try.prog a w' K Q := by
  unfold isAl at ho
  split at ho
  · rename_i t ht
    simp only [Bool.and_eq_true, beq_iff_eq] at ho
    obtain ⟨rfl, _⟩ := ho
    unfold Oper.wp execOp
    rw [ht]
    have hr : ∀ w : World, (newVar 77 (.agg #[.int .i64 0, .int .i64 0])).run Try.prog w = .ok ⟨w.heap.size, 0, none⟩ (w.alloc (.cells #[.int .i64 0, .int .i64 0] 77)) := fun w => by kernel_rfl
    simp [go_sem, Oper.upon]
    exact hK
  · cases ho
set_option maxRecDepth 100000 in
set_option maxHeartbeats 1600000 in
theorem mtimes_raw (p q : Rat) (w : World) (h1 : -4000000000000000000 ≤ p.num * q.num) (h2 : p.num * q.num ≤ 4000000000000000000) (h5 : (p.den : Int) * q.den ≤ 4000000000000000000)
    (b1 : -4000000000000000000 ≤ p.num ∧ p.num ≤ 4000000000000000000) (b2 : -4000000000000000000 ≤ q.num ∧ q.num ≤ 4000000000000000000) (b3 : (p.den : Int) ≤ 4000000000000000000) (b4 : (q.den : Int) ≤ 4000000000000000000) :
    Calls Try.prog 49 #[fr p, fr q] w fun e w' => e = .returned (fr (p * q)) ∧ Below w.heap.size w w' := by
  obtain ⟨t1, t2⟩ := times_law p q
  have hp := den_pos p
  have hq := den_pos q
  obtain ⟨r, hr⟩ : ∃ r, r = p * q := ⟨_, rfl⟩
  obtain ⟨x, hx⟩ : ∃ x, x = Rat.divInt p.num q.den := ⟨_, rfl⟩
  obtain ⟨y, hy⟩ : ∃ y, y = Rat.divInt q.num p.den := ⟨_, rfl⟩
  rw [← hx, ← hy, ← hr] at t1 t2
  have hrn : r.num.natAbs ≤ (p.num * q.num).natAbs := by
    have ax := abs_divInt (a := p.num) hq
    have ay := abs_divInt (a := q.num) hp
    rw [← hx] at ax
    rw [← hy] at ay
    rw [← t1, Int.natAbs_mul, Int.natAbs_mul]
    exact Nat.mul_le_mul ax ay
  have hrd : (r.den : Int) ≤ (p.den : Int) * q.den := by
    have ax := divInt_den_le (a := p.num) hq
    have ay := divInt_den_le (a := q.num) hp
    rw [← hx] at ax
    rw [← hy] at ay
    have hx0 := den_pos x
    have hy0 := den_pos y
    rw [← t2, Int.mul_comm (p.den : Int)]
    exact Int.mul_le_mul ax ay (by omega) (by omega)
  have hrb : -4000000000000000000 ≤ r.num ∧ r.num ≤ 4000000000000000000 ∧ 0 < (r.den : Int) ∧ (r.den : Int) ≤ 4000000000000000000 := by
    have := den_pos r
    omega
  have hP1 : LowOk p.num q.den := ⟨by omega, by omega, by omega, by omega⟩
  have hP2 : LowOk q.num p.den := ⟨by omega, by omega, by omega, by omega⟩
  rw [← hr]
  have hx1 : lowN p.num q.den = x.num := by rw [hx]; rfl
  have hx2 : lowD p.num q.den = (x.den : Int) := by rw [hx]; rfl
  have hy1 : lowN q.num p.den = y.num := by rw [hy]; rfl
  have hy2 : lowD q.num p.den = (y.den : Int) := by rw [hy]; rfl
  clear h1 h2 h5 b1 b2 b3 b4 hx hy hr hrn hrd hp hq
  unfold fr
  obtain ⟨xn, hxn⟩ : ∃ z, z = x.num := ⟨_, rfl⟩
  obtain ⟨xd, hxd⟩ : ∃ z : Int, z = (x.den : Int) := ⟨_, rfl⟩
  obtain ⟨yn, hyn⟩ : ∃ z, z = y.num := ⟨_, rfl⟩
  obtain ⟨yd, hyd⟩ : ∃ z : Int, z = (y.den : Int) := ⟨_, rfl⟩
  rw [← hxn, ← hyn] at t1
  rw [← hxd, ← hyd] at t2
  rw [← hxn] at hx1
  rw [← hxd] at hx2
  rw [← hyn] at hy1
  rw [← hyd] at hy2
  obtain ⟨rn, hrn⟩ : ∃ z, z = r.num := ⟨_, rfl⟩
  obtain ⟨rd, hrd⟩ : ∃ z : Int, z = (r.den : Int) := ⟨_, rfl⟩
  rw [← hrn] at t1 hrb ⊢
  rw [← hrd] at t2 hrb ⊢
  have v1 : IntKind.i64.wrap rn = rn := IntWalk.i64_in _ (by omega)
  have v2 : IntKind.i64.wrap rd = rd := IntWalk.i64_in _ (by omega)
  clear hxn hxd hyn hyd hrn hrd
  go_enter Try.func49, Try.ntmps49
  go_wp2_with fail
  generalize hW : ((w.alloc (.cells #[.int .i64 p.num, .int .i64 (p.den : Int)] 77)).alloc (.cells #[.int .i64 q.num, .int .i64 (q.den : Int)] 77)).alloc (.cells #[.int .i64 0, .int .i64 0] 77) = w1
  have B1 : Blk w1 w.heap.size 77 #[.int .i64 p.num, .int .i64 (p.den : Int)] := by rw [← hW]; exact ((Blk.new _ _ _ rfl).alloc _).alloc _
  have B2 : Blk w1 (w.heap.size + 1) 77 #[.int .i64 q.num, .int .i64 (q.den : Int)] := by rw [← hW]; exact (Blk.new _ _ _ (by simp)).alloc _
  have B3 : Blk w1 (w.heap.size + 1 + 1) 77 #[.int .i64 0, .int .i64 0] := by rw [← hW]; exact (Blk.new _ _ _ (by simp))
  have HB : Below w.heap.size w w1 := by rw [← hW]; exact ((((Below.refl _ _).alloc (Nat.le_refl _) _).alloc (by go_size) _).alloc (by go_size) _)
  clear hW
  have hz := B3.lt
  obtain ⟨a1, a2, _, _⟩ := B1.at2
  obtain ⟨b1, b2, _, _⟩ := B2.at2
  have d1 : ∀ A (s : DescA w1 77 #[.int .i64 0, .int .i64 0] A), s.val.cell? ⟨w.heap.size, 0, none⟩ = some (.int .i64 p.num) := fun A s => s.cell a1
  have d2 : ∀ A (s : DescA w1 77 #[.int .i64 0, .int .i64 0] A), s.val.cell? ⟨w.heap.size, 1, none⟩ = some (.int .i64 (p.den : Int)) := fun A s => s.cell a2
  have d3 : ∀ A (s : DescA w1 77 #[.int .i64 0, .int .i64 0] A), s.val.cell? ⟨w.heap.size + 1, 0, none⟩ = some (.int .i64 q.num) := fun A s => s.cell b1
  have d4 : ∀ A (s : DescA w1 77 #[.int .i64 0, .int .i64 0] A), s.val.cell? ⟨w.heap.size + 1, 1, none⟩ = some (.int .i64 (q.den : Int)) := fun A s => s.cell b2
  have HLOW : Hid (∀ A (sd : DescA w1 77 #[.int .i64 0, .int .i64 0] A) (a b : Int), LowOk a b → Calls Try.prog 65 #[.agg #[.int .i64 a, .int .i64 b]] sd.val fun e w'' => e = .returned (.agg #[.int .i64 (lowN a b), .int .i64 (lowD a b)]) ∧ ∃ s' : DescA w1 77 #[.int .i64 0, .int .i64 0] A, w'' = s'.val) := Lib.hid fun A sd a b h => Calls.descA_of (mlowest_low a b _ h)
  have HP1 := Lib.hid hP1
  have HP2 := Lib.hid hP2
  have HD := Lib.hid (And.intro d1 (And.intro d2 (And.intro d3 d4)))
  clear hP1 hP2 d1 d2 d3 d4
  have H := Lib.hid (And.intro HB B3)
  clear a1 a2 b1 b2 B1 B2 B3 HB
  refine' wp_region_desc_alloc 12 2 77 #[.int .i64 0, .int .i64 0] al_frac (by kernel_rfl) (by kernel_rfl) (by kernel_rfl) (by kernel_rfl) _ ?hh ?hq
  case hh =>
    intro A hne Q' hQ'
    have e1 := HD.out.1 A
    have e2 := HD.out.2.1 A
    have e3 := HD.out.2.2.1 A
    have e4 := HD.out.2.2.2 A
    have HLW := Lib.hid (HLOW.out A)
    simp only [List.take_succ_cons, List.take_zero]
    repeat (go_big_quiet_step (first | (go_at_call 65; exact HLW.out _ _ _ (by first | exact HP1.out | exact HP2.out))))
    refine wpQuiet_nil ?_
    exact hQ'
  case hq =>
    simp only [List.take_succ_cons, List.take_zero, List.drop_succ_cons, List.drop_zero]
    intro g5 _ g6 hg6 sd
    have hb3 := sd.below
    obtain ⟨z5, B5⟩ := sd.blks g5 (.inr (.inl rfl))
    obtain ⟨z6, B6⟩ := sd.blks g6 (.inl rfl)
    have hne : g5 ≠ g6 := fun h => hg6 (.inl h.symm)
    generalize sd.val = w4 at hb3 B5 B6 ⊢
    have B4 := H.out.2.below hb3 hz
    have hb4 := H.out.1.trans (hb3.mono H.out.1.size)
    obtain ⟨c0, c1, f0, f1⟩ := B4.at2
    obtain ⟨a0, a1, k0, k1⟩ := B5.at2
    obtain ⟨b0, b1, m0, m1⟩ := B6.at2
    have HB4 := Lib.hid hb4
    have n1 : g6 ≠ g5 := fun h => hne h.symm
    have n2 : w.heap.size + 1 + 1 ≠ g5 := by omega
    have n3 : w.heap.size + 1 + 1 ≠ g6 := by omega
    have n4 : g5 ≠ w.heap.size + 1 + 1 := by omega
    have n5 : g6 ≠ w.heap.size + 1 + 1 := by omega
    clear hb3 B4 hb4 B5 B6 hg6
    rw [hx1, hx2, hy1, hy2]
    unfold ptrB
    go_wp2_with fail
    have z1 : w.heap.size ≤ g5 := by omega
    have z2 : w.heap.size ≤ g6 := by omega
    exact bodyPost_ret (v := .agg #[.int .i64 rn, .int .i64 rd]) (by simp [results, Try.results49, go_sem, c0, c1]) rfl ⟨rfl, (((((HB4.out.setCell z1 _).setCell z1 _).setCell z2 _).setCell z2 _).setCell (by go_size) _).setCell (by go_size) _⟩

theorem over_law (q : Rat) (hq : 0 < q.num) : Rat.divInt q.den q.num = q⁻¹ ∧ (q⁻¹).num = q.den ∧ ((q⁻¹).den : Int) = q.num := by
  have e : Rat.divInt q.den q.num = q⁻¹ := by rw [Rat.inv_def]
  have h := num_low (a := (q.den : Int)) hq (by rw [Int.gcd_comm]; exact rat_lowest q)
  rw [e] at h
  exact ⟨e, h⟩
set_option maxRecDepth 100000 in
set_option maxHeartbeats 1600000 in
theorem mover_raw (p q : Rat) (w : World) (hq0 : 0 < q.num) (h1 : -4000000000000000000 ≤ p.num * q.den) (h2 : p.num * q.den ≤ 4000000000000000000) (h5 : (p.den : Int) * q.num ≤ 4000000000000000000)
    (b1 : -4000000000000000000 ≤ p.num ∧ p.num ≤ 4000000000000000000) (b2 : q.num ≤ 4000000000000000000) (b3 : (p.den : Int) ≤ 4000000000000000000) (b4 : (q.den : Int) ≤ 4000000000000000000) :
    Calls Try.prog 50 #[fr p, fr q] w fun e w' => e = .returned (fr (p / q)) ∧ Below w.heap.size w w' := by
  obtain ⟨o1, o2, o3⟩ := over_law q hq0
  have hqd := den_pos q
  have HL := Lib.hid fun w => mlowest_any q.den q.num w (by omega) (by omega) hq0 (by omega)
  rw [o1] at HL
  have HT := Lib.hid fun w => mtimes_raw p q⁻¹ w (by rw [o2]; exact h1) (by rw [o2]; exact h2) (by rw [o3]; exact h5) b1 (by rw [o2]; omega) b3 (by rw [o3]; omega)
  rw [← Rat.div_def] at HT
  obtain ⟨r, hr⟩ : ∃ r, r = p / q := ⟨_, rfl⟩
  obtain ⟨i, hi⟩ : ∃ i, i = q⁻¹ := ⟨_, rfl⟩
  rw [← hr, ← hi] at HT
  rw [← hi] at HL
  rw [← hr]
  clear h1 h2 h5 b1 b2 b3 b4 hr hi o1 o2 o3 hq0 hqd
  unfold fr at HL HT ⊢
  go_enter Try.func50, Try.ntmps50
  go_wp2_with fail
  generalize hW : ((w.alloc (.cells #[.int .i64 p.num, .int .i64 (p.den : Int)] 77)).alloc (.cells #[.int .i64 q.num, .int .i64 (q.den : Int)] 77)).alloc (.cells #[.int .i64 0, .int .i64 0] 77) = w1
  have B1 : Blk w1 w.heap.size 77 #[.int .i64 p.num, .int .i64 (p.den : Int)] := by rw [← hW]; exact ((Blk.new _ _ _ rfl).alloc _).alloc _
  have B2 : Blk w1 (w.heap.size + 1) 77 #[.int .i64 q.num, .int .i64 (q.den : Int)] := by rw [← hW]; exact (Blk.new _ _ _ (by simp)).alloc _
  have B3 : Blk w1 (w.heap.size + 1 + 1) 77 #[.int .i64 0, .int .i64 0] := by rw [← hW]; exact (Blk.new _ _ _ (by simp))
  have HB : Below w.heap.size w w1 := by rw [← hW]; exact ((((Below.refl _ _).alloc (Nat.le_refl _) _).alloc (by go_size) _).alloc (by go_size) _)
  clear hW
  have hz := B3.lt
  obtain ⟨a1, a2, _, _⟩ := B1.at2
  obtain ⟨b1, b2, _, _⟩ := B2.at2
  have d1 : ∀ s : Desc w1, s.val.cell? ⟨w.heap.size, 0, none⟩ = some (.int .i64 p.num) := fun s => s.cell a1
  have d2 : ∀ s : Desc w1, s.val.cell? ⟨w.heap.size, 1, none⟩ = some (.int .i64 (p.den : Int)) := fun s => s.cell a2
  have d3 : ∀ s : Desc w1, s.val.cell? ⟨w.heap.size + 1, 0, none⟩ = some (.int .i64 q.num) := fun s => s.cell b1
  have d4 : ∀ s : Desc w1, s.val.cell? ⟨w.heap.size + 1, 1, none⟩ = some (.int .i64 (q.den : Int)) := fun s => s.cell b2
  have HLW : Hid (∀ sd : Desc w1, Calls Try.prog 65 #[.agg #[.int .i64 (q.den : Int), .int .i64 q.num]] sd.val fun e w'' => e = .returned (.agg #[.int .i64 i.num, .int .i64 (i.den : Int)]) ∧ ∃ s' : Desc w1, w'' = s'.val) := Lib.hid fun sd => Calls.desc_of (HL.out _)
  have HTM : Hid (∀ sd : Desc w1, Calls Try.prog 49 #[.agg #[.int .i64 p.num, .int .i64 (p.den : Int)], .agg #[.int .i64 i.num, .int .i64 (i.den : Int)]] sd.val fun e w'' => e = .returned (.agg #[.int .i64 r.num, .int .i64 (r.den : Int)]) ∧ ∃ s' : Desc w1, w'' = s'.val) := Lib.hid fun sd => Calls.desc_of (HT.out _)
  have H := Lib.hid (And.intro HB B3)
  clear a1 a2 b1 b2 B1 B2 B3 HB HL HT
  refine wp_region_desc_tail 8 (by kernel_rfl) (by kernel_rfl) ?_
  simp only [List.take_succ_cons, List.take_zero, List.drop_succ_cons, List.drop_zero]
  repeat (go_big_quiet_step (first | (go_at_call 65; exact HLW.out _) | (go_at_call 49; exact HTM.out _)))
  refine wpQuiet_nil ?_
  rintro _ ⟨sd, rfl⟩
  have hb3 := sd.below
  generalize sd.val = w4 at hb3 ⊢
  have B4 := H.out.2.below hb3 hz
  have hb4 := H.out.1.trans (hb3.mono H.out.1.size)
  obtain ⟨c0, c1, f0, f1⟩ := B4.at2
  have HB4 := Lib.hid hb4
  clear d1 d2 d3 d4 hb3 B4 hb4
  go_wp2_with fail
  exact bodyPost_ret (v := fr r) (by simp [results, Try.results50, go_sem, fr, c0, c1]) rfl ⟨rfl, (HB4.out.setCell (by go_size) _).setCell (by go_size) _⟩

/- The goods with the greatest use for the price: plain Lean. -/

/-- The use for a point. -/
def useP (r : List Int) (p : List Rat) (g : Nat) : Rat := ((r.getD g 0 : Int) : Rat) / p.getD g 0
def wTo (r : List Int) (p : List Rat) : Nat → Nat × Rat
  | 0 => (0, 0)
  | g + 1 => if (wTo r p g).2 < useP r p g then (2 ^ g, useP r p g) else if useP r p g = (wTo r p g).2 then ((wTo r p g).1 ||| 2 ^ g, (wTo r p g).2) else wTo r p g
/-- The set that a buyer wants. -/
def wantS (r : List Int) (p : List Rat) : Nat := (wTo r p r.length).1
theorem wTo_lt (r : List Int) (p : List Rat) (g : Nat) : (wTo r p g).1 < 2 ^ g := by
  induction g with
  | zero => simp [wTo]
  | succ g ih =>
    have h2 : (2 : Nat) ^ g < 2 ^ (g + 1) := Nat.pow_lt_pow_right (by omega) (by omega)
    simp only [wTo]
    split
    · exact h2
    · split
      · exact Nat.or_lt_two_pow (by omega) h2
      · omega
theorem testBit_pow (g h : Nat) : (2 ^ g).testBit h = decide (g = h) := Nat.testBit_two_pow
/-- The greatest so far, and who has it. -/
theorem wTo_says {r : List Int} {p : List Rat} (h0 : ∀ g, 0 ≤ useP r p g) : ∀ k, (∀ g, g < k → useP r p g ≤ (wTo r p k).2) ∧ ((k = 0 ∧ (wTo r p k).2 = 0) ∨ (∃ g, g < k ∧ useP r p g = (wTo r p k).2) ∨ (wTo r p k).2 = 0) ∧ ∀ g, (wTo r p k).1.testBit g = (decide (g < k) && decide (useP r p g = (wTo r p k).2)) := by
  intro k
  induction k with
  | zero => exact ⟨fun g hg => by omega, .inl ⟨rfl, rfl⟩, fun g => by simp [wTo]⟩
  | succ k ih =>
    obtain ⟨i1, i2, i3⟩ := ih
    have hnn : 0 ≤ (wTo r p k).2 := by
      rcases i2 with ⟨_, h⟩ | ⟨g, _, h⟩ | h
      · rw [h]; exact Rat.le_refl
      · rw [← h]; exact h0 g
      · rw [h]; exact Rat.le_refl
    simp only [wTo]
    split
    · rename_i hlt
      refine ⟨fun g hg => ?_, .inr (.inl ⟨k, by omega, rfl⟩), fun g => ?_⟩
      · rcases Nat.lt_or_ge g k with h | h
        · have := i1 g h; grind
        · rw [show g = k by omega]; exact Rat.le_refl
      · rw [testBit_pow, Bool.eq_iff_iff]
        simp only [Bool.and_eq_true, decide_eq_true_eq]
        constructor
        · rintro rfl; exact ⟨by omega, rfl⟩
        · rintro ⟨h1, h2⟩
          rcases Nat.lt_or_ge g k with h | h
          · have := i1 g h; grind
          · omega
    · rename_i hle
      split
      · rename_i heq
        refine ⟨fun g hg => ?_, .inr (.inl ⟨k, by omega, heq⟩), fun g => ?_⟩
        · rcases Nat.lt_or_ge g k with h | h
          · exact i1 g h
          · rw [show g = k by omega, heq]; exact Rat.le_refl
        · rw [Nat.testBit_or, i3, testBit_pow, Bool.eq_iff_iff]
          simp only [Bool.or_eq_true, Bool.and_eq_true, decide_eq_true_eq]
          constructor
          · rintro (⟨h1, h2⟩ | rfl)
            · exact ⟨by omega, h2⟩
            · exact ⟨by omega, heq⟩
          · rintro ⟨h1, h2⟩
            rcases Nat.lt_or_ge g k with h | h
            · exact .inl ⟨h, h2⟩
            · exact .inr (by omega)
      · rename_i hne
        refine ⟨fun g hg => ?_, ?_, fun g => ?_⟩
        · rcases Nat.lt_or_ge g k with h | h
          · exact i1 g h
          · rw [show g = k by omega]; grind
        · rcases i2 with ⟨_, h⟩ | ⟨g, h, h'⟩ | h
          · exact .inr (.inr h)
          · exact .inr (.inl ⟨g, by omega, h'⟩)
          · exact .inr (.inr h)
        · rw [i3, Bool.eq_iff_iff]
          simp only [Bool.and_eq_true, decide_eq_true_eq]
          constructor
          · rintro ⟨h1, h2⟩; exact ⟨by omega, h2⟩
          · rintro ⟨h1, h2⟩
            rcases Nat.lt_or_ge g k with h | h
            · exact ⟨h, h2⟩
            · rw [show g = k by omega] at h2; exact absurd h2 hne
/-- Wanted: none has more use for the price. -/
theorem want_bit {r : List Int} {p : List Rat} {k g : Nat} (h0 : ∀ g, 0 ≤ useP r p g) (hg : g < k) : (wTo r p k).1.testBit g = true ↔ ∀ h, h < k → useP r p h ≤ useP r p g := by
  obtain ⟨i1, i2, i3⟩ := wTo_says h0 k
  rw [i3]
  simp only [Bool.and_eq_true, decide_eq_true_eq]
  constructor
  · rintro ⟨_, h2⟩ h hh; rw [h2]; exact i1 h hh
  · intro hh
    refine ⟨hg, ?_⟩
    have h1 := i1 g hg
    rcases i2 with ⟨h, _⟩ | ⟨x, hx, he⟩ | h
    · omega
    · have := hh x hx; grind
    · have := h0 g; grind
/-- Prices as they may be given, or as the program finds them. -/
def PrOk (q : Rat) : Prop := 1 ≤ q.num ∧ q.num ≤ 1048576 ∧ (q.den : Int) ≤ 1048576
theorem PrOk.pos {q : Rat} (h : PrOk q) : 0 < q := by
  have h1 := Rat.num_nonneg (q := q)
  have h2 : 0 ≤ q := h1.1 (by have := h.1; omega)
  have h3 : q ≠ 0 := by
    intro h4
    have := h.1
    rw [h4] at this
    exact absurd this (by decide)
  grind
theorem div_bds {u : Int} {q : Rat} (hu : 0 ≤ u ∧ u ≤ 20) (hq : PrOk q) : 0 ≤ ((u : Rat) / q).num ∧ ((u : Rat) / q).num ≤ 20971520 ∧ (((u : Rat) / q).den : Int) ≤ 1048576 := by
  obtain ⟨h1, h2, h3⟩ := hq
  have hd := den_pos q
  have e : (u : Rat) / q = Rat.divInt (u * q.den) q.num := by
    obtain ⟨_, o2, o3⟩ := over_law q (by omega)
    rw [Rat.div_def, ← mul_divInt, o2, o3, Rat.num_intCast, Rat.den_intCast]
    simp
  have hb : 0 ≤ u * (q.den : Int) ∧ u * (q.den : Int) ≤ 20 * 1048576 := ⟨Int.mul_nonneg hu.1 (by omega), Int.mul_le_mul hu.2 h3 (by omega) (by omega)⟩
  have hn := divInt_bd (a := u * (q.den : Int)) (b := q.num) (m := 20971520) (by omega) (by omega) (by omega)
  have hdn := divInt_den_le (a := u * (q.den : Int)) (b := q.num) (by omega)
  have hnn : 0 ≤ (Rat.divInt (u * q.den) q.num).num := by
    rw [← div_num (by omega)]
    rw [Int.tdiv_eq_ediv_of_nonneg hb.1]
    exact Int.ediv_nonneg hb.1 (Int.natCast_nonneg _)
  rw [e]
  exact ⟨hnn, hn.2, by omega⟩
theorem wTo_bds {r : List Int} {p : List Rat} (hr : ∀ g, 0 ≤ r.getD g 0 ∧ r.getD g 0 ≤ 20) {k : Nat} (hp : ∀ g, g < k → PrOk (p.getD g 0)) : 0 ≤ (wTo r p k).2.num ∧ (wTo r p k).2.num ≤ 20971520 ∧ ((wTo r p k).2.den : Int) ≤ 1048576 := by
  induction k with
  | zero => simp [wTo]
  | succ k ih =>
    have ih := ih fun g hg => hp g (by omega)
    have hd := div_bds (hr k) (hp k (by omega))
    simp only [wTo]
    split
    · exact hd
    · split <;> exact ih

/- Balance of prices and spendings, as the program reckons it: plain Lean. -/

def rowQ (S : List (List Rat)) (i : Nat) : List Rat := S.getD i []
theorem rowQ_some {S : List (List Rat)} {i : Nat} (h : i < S.length) : S[i]? = some (rowQ S i) := by unfold rowQ; rw [List.getD_eq_getElem?_getD, List.getElem?_eq_getElem h]; rfl
/-- The sum of the first g. -/
def sumF (f : Nat → Rat) : Nat → Rat
  | 0 => 0
  | g + 1 => sumF f g + f g
def spd (S : List (List Rat)) (i g : Nat) : Rat := (rowQ S i).getD g 0
/-- A spending that balanced lets pass. -/
def cellOk (V : List (List Int)) (p : List Rat) (S : List (List Rat)) (i g : Nat) : Bool := decide (0 ≤ spd S i g) && (decide (spd S i g = 0) || (wantS (rowV V i) p).testBit g)
def lineOk (B : List Int) (V : List (List Int)) (p : List Rat) (S : List (List Rat)) (i : Nat) : Bool := (List.range p.length).all (cellOk V p S i) && decide (sumF (spd S i) p.length = ((B.getD i 0 : Int) : Rat))
def balB (B : List Int) (V : List (List Int)) (p : List Rat) (S : List (List Rat)) : Bool := (List.range B.length).all (lineOk B V p S) && decide ((List.range p.length).map (fun g => sumF (fun i => spd S i g) B.length) = p)
/-- The columns' sums while row i is read. -/
def colTo (S : List (List Rat)) (k i g : Nat) : List Rat := (List.range k).map fun h => sumF (fun j => spd S j h) (if h < g then i + 1 else i)
theorem colTo_length (S : List (List Rat)) (k i g : Nat) : (colTo S k i g).length = k := by simp [colTo]
theorem colTo_zero (S : List (List Rat)) (k : Nat) : colTo S k 0 0 = List.replicate k 0 := by
  unfold colTo
  rw [List.eq_replicate_iff]
  refine ⟨by simp, fun x hx => ?_⟩
  obtain ⟨h, _, rfl⟩ := List.mem_map.1 hx
  rw [if_neg (by omega)]; rfl
theorem colTo_next (S : List (List Rat)) (k i : Nat) : colTo S k i k = colTo S k (i + 1) 0 := by
  unfold colTo
  refine List.map_congr_left fun h hh => ?_
  rw [if_pos (List.mem_range.1 hh), if_neg (by omega)]
theorem colTo_get {S : List (List Rat)} {k i g : Nat} (hg : g < k) : (colTo S k i g)[g]? = some (sumF (fun j => spd S j g) i) := by
  unfold colTo
  rw [List.getElem?_map, List.getElem?_range hg, Option.map_some, if_neg (by omega)]
theorem colTo_set {S : List (List Rat)} {k i g : Nat} (hg : g < k) : (colTo S k i g).set g (sumF (fun j => spd S j g) (i + 1)) = colTo S k i (g + 1) := by
  apply List.ext_getElem?
  intro h
  rw [List.getElem?_set]
  by_cases e : g = h
  · subst e
    rw [if_pos rfl, if_pos (by rw [colTo_length]; exact hg)]
    unfold colTo
    rw [List.getElem?_map, List.getElem?_range hg, Option.map_some, if_pos (by omega)]
  · rw [if_neg e]
    unfold colTo
    by_cases hk : h < k
    · rw [List.getElem?_map, List.getElem?_map, List.getElem?_range hk, Option.map_some, Option.map_some]
      by_cases h2 : h < g
      · rw [if_pos h2, if_pos (by omega)]
      · rw [if_neg h2, if_neg (by omega)]
    · rw [List.getElem?_eq_none (by simp; omega), List.getElem?_eq_none (by simp; omega)]
/-- A spending's size. -/
def SpB (q : Rat) : Prop := -1048576 ≤ q.num ∧ q.num ≤ 1048576 ∧ (q.den : Int) ≤ 1048576
def lvN : Nat → Int
  | 0 => 0
  | 1 => 1048576
  | 2 => 2199023255552
  | _ => 3458764513820540928
def lvD : Nat → Int
  | 0 => 1
  | 1 => 1048576
  | 2 => 1099511627776
  | _ => 1152921504606846976
def LvB (j : Nat) (q : Rat) : Prop := -lvN j ≤ q.num ∧ q.num ≤ lvN j ∧ (q.den : Int) ≤ lvD j
theorem lv_zero : LvB 0 0 := ⟨by decide, by decide, by decide⟩
theorem add_num (p q : Rat) {m d : Int} (h1 : -m ≤ p.num * q.den + q.num * p.den) (h2 : p.num * q.den + q.num * p.den ≤ m) (h3 : (p.den : Int) * q.den ≤ d) : -m ≤ (p + q).num ∧ (p + q).num ≤ m ∧ ((p + q).den : Int) ≤ d := by
  have hp := Int.mul_pos (den_pos p) (den_pos q)
  rw [← add_divInt p q]
  have a := divInt_bd hp h1 h2
  have b := divInt_den_le (a := p.num * q.den + q.num * p.den) hp
  omega
/-- One more of at most three. -/
theorem lv_add {j : Nat} (hj : j ≤ 2) {p q : Rat} (hp : LvB j p) (hq : SpB q) :
    LvB (j + 1) (p + q) ∧ (-4000000000000000000 ≤ p.num * q.den ∧ p.num * q.den ≤ 4000000000000000000) ∧ (-4000000000000000000 ≤ q.num * p.den ∧ q.num * p.den ≤ 4000000000000000000) ∧ (p.den : Int) * q.den ≤ 4000000000000000000 ∧ (p.den : Int) ≤ 4000000000000000000 ∧ (q.den : Int) ≤ 4000000000000000000 := by
  obtain ⟨q1, q2, q3⟩ := hq
  obtain ⟨p1, p2, p3⟩ := hp
  have hqd := den_pos q
  have hpd := den_pos p
  have : j = 0 ∨ j = 1 ∨ j = 2 := by omega
  rcases this with rfl | rfl | rfl
  · simp only [lvN, lvD] at p1 p2 p3
    have m1 := mul_bd (a := p.num) (b := (q.den : Int)) (m := 0) (n := 1048576) (by omega) (by omega) (by omega) (by omega)
    have m2 := mul_bd (a := q.num) (b := (p.den : Int)) (m := 1048576) (n := 1) (by omega) (by omega) (by omega) (by omega)
    have m3 := mul_bd (a := (p.den : Int)) (b := (q.den : Int)) (m := 1) (n := 1048576) (by omega) (by omega) (by omega) (by omega)
    exact ⟨add_num p q (m := 1048576) (d := 1048576) (by omega) (by omega) (by omega), by omega, by omega, by omega, by omega, by omega⟩
  · simp only [lvN, lvD] at p1 p2 p3
    have m1 := mul_bd (a := p.num) (b := (q.den : Int)) (m := 1048576) (n := 1048576) (by omega) (by omega) (by omega) (by omega)
    have m2 := mul_bd (a := q.num) (b := (p.den : Int)) (m := 1048576) (n := 1048576) (by omega) (by omega) (by omega) (by omega)
    have m3 := mul_bd (a := (p.den : Int)) (b := (q.den : Int)) (m := 1048576) (n := 1048576) (by omega) (by omega) (by omega) (by omega)
    exact ⟨add_num p q (m := 2199023255552) (d := 1099511627776) (by omega) (by omega) (by omega), by omega, by omega, by omega, by omega, by omega⟩
  · simp only [lvN, lvD] at p1 p2 p3
    have m1 := mul_bd (a := p.num) (b := (q.den : Int)) (m := 2199023255552) (n := 1048576) (by omega) (by omega) (by omega) (by omega)
    have m2 := mul_bd (a := q.num) (b := (p.den : Int)) (m := 1048576) (n := 1099511627776) (by omega) (by omega) (by omega) (by omega)
    have m3 := mul_bd (a := (p.den : Int)) (b := (q.den : Int)) (m := 1099511627776) (n := 1048576) (by omega) (by omega) (by omega) (by omega)
    exact ⟨add_num p q (m := 3458764513820540928) (d := 1152921504606846976) (by omega) (by omega) (by omega), by omega, by omega, by omega, by omega, by omega⟩
theorem sumF_lv {f : Nat → Rat} : ∀ j, j ≤ 3 → (∀ i, i < j → SpB (f i)) → LvB j (sumF f j) := by
  intro j
  induction j with
  | zero => intro _ _; exact lv_zero
  | succ j ih => intro hj h; exact (lv_add (by omega) (ih (by omega) fun i hi => h i (by omega)) (h j (by omega))).1
theorem spd_ok {S : List (List Rat)} (h : ∀ r ∈ S, ∀ q ∈ r, SpB q) (i g : Nat) : SpB (spd S i g) := by
  unfold spd rowQ
  rw [List.getD_eq_getElem?_getD, List.getD_eq_getElem?_getD]
  have h0 : SpB 0 := ⟨by decide, by decide, by decide⟩
  cases e : S[i]? with
  | none => simpa using h0
  | some r =>
    simp only [Option.getD_some]
    cases e2 : r[g]? with
    | none => simpa using h0
    | some q => exact h r (List.mem_of_getElem? e) q (List.mem_of_getElem? e2)
theorem bal_line {B : List Int} {V : List (List Int)} {p : List Rat} {S : List (List Rat)} {i : Nat} (hi : i < B.length) (h : lineOk B V p S i = false) : balB B V p S = false := by
  unfold balB
  have : (List.range B.length).all (lineOk B V p S) = false := by
    rw [List.all_eq_false]; exact ⟨i, List.mem_range.2 hi, by simp [h]⟩
  rw [this]; rfl
theorem bal_cell {B : List Int} {V : List (List Int)} {p : List Rat} {S : List (List Rat)} {i g : Nat} (hi : i < B.length) (hg : g < p.length) (h : cellOk V p S i g = false) : balB B V p S = false := by
  refine bal_line hi ?_
  unfold lineOk
  have : (List.range p.length).all (cellOk V p S i) = false := by
    rw [List.all_eq_false]; exact ⟨g, List.mem_range.2 hg, by simp [h]⟩
  rw [this]; rfl
theorem line_of {B : List Int} {V : List (List Int)} {p : List Rat} {S : List (List Rat)} {i : Nat} (h : ∀ g, g < p.length → cellOk V p S i g = true) : lineOk B V p S i = decide (sumF (spd S i) p.length = ((B.getD i 0 : Int) : Rat)) := by
  unfold lineOk
  have : (List.range p.length).all (cellOk V p S i) = true := by
    rw [List.all_eq_true]; exact fun g hg => h g (List.mem_range.1 hg)
  rw [this]; rfl
theorem bal_of {B : List Int} {V : List (List Int)} {p : List Rat} {S : List (List Rat)} (h : ∀ i, i < B.length → lineOk B V p S i = true) : balB B V p S = decide (colTo S p.length B.length 0 = p) := by
  unfold balB
  have : (List.range B.length).all (lineOk B V p S) = true := by
    rw [List.all_eq_true]; exact fun g hg => h g (List.mem_range.1 hg)
  rw [this, Bool.true_and]
  congr 1
end Go.Proofs.Ytnljnjnmhbkdoaa
