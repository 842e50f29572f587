/- Words for memory that the walks of this seat share: a slice of ints, of fractions, of slices, read in a world; what a call may have turned. Plain lemmas, no program. -/
import Derived.WalkKit
import Derived.WalkSpells
import Derived.WalkLawsBesides
import Derived.Lib.Hide
import Derived.Deep.QuietTactic
import Derived.BigQuiet
import Derived.Handy
namespace Go.Proofs.Ytkljambjdiblkaa
open Go.RowKit

/-- The cells from A on hold these values. -/
def At (w : World) (A : Option Addr) (cs : List Value) : Prop := ∀ i v, cs[i]? = some v → ∃ ad, A = some ad ∧ w.cell? (ad.add i) = some v

/-- The slice at A reads as these ints. -/
def Ints (w : World) (A : Option Addr) (xs : List Int) : Prop := At w A (xs.map (Value.int .i64))

theorem add_block (a : Addr) (n : Nat) : (a.add n).block = a.block := by unfold Addr.add; split <;> rfl
theorem add_add (a : Addr) (i j : Nat) : (a.add i).add j = a.add (i + j) := by
  unfold Addr.add
  by_cases hi : i = 0 <;> by_cases hj : j = 0 <;> simp [hi, hj, Nat.add_assoc]

theorem lt_of_cell {w : World} {p : Addr} {v : Value} (h : w.cell? p = some v) : p.block < w.heap.size := by
  rcases Nat.lt_or_ge p.block w.heap.size with hlt | hge
  · exact hlt
  · simp [World.cell?, Array.getElem?_eq_none hge] at h

section
variable {w w' : World} {A : Option Addr} {cs : List Value} {xs : List Int}
theorem At.keep (h : At w A cs) (hk : ∀ p v, w.cell? p = some v → w'.cell? p = some v) : At w' A cs :=
  fun i v hv => let ⟨ad, e, hc⟩ := h i v hv; ⟨ad, e, hk _ _ hc⟩
theorem At.below (h : At w A cs) (hb : Below w.heap.size w w') : At w' A cs :=
  h.keep fun _ _ hc => (hb.cell (lt_of_cell hc)).trans hc
theorem At.nil : At w A [] := fun i v h => by simp at h
theorem At.some_ (h : At w A cs) (hn : 0 < cs.length) : ∃ ad, A = some ad ∧ ad.block < w.heap.size ∧ ∀ i v, cs[i]? = some v → w.cell? (ad.add i) = some v := by
  obtain ⟨ad, rfl, hc⟩ := h 0 _ (List.getElem?_eq_getElem hn)
  refine ⟨ad, rfl, ?_, fun i v hv => ?_⟩
  · have := lt_of_cell hc; rwa [add_block] at this
  · obtain ⟨ad', e, hc'⟩ := h i v hv
    injection e with e; subst e; exact hc'
theorem At.some2 {ad : Addr} (h : At w (some ad) cs) : ∀ i v, cs[i]? = some v → w.cell? (ad.add i) = some v := by
  intro i v hv
  obtain ⟨ad', e, hc'⟩ := h i v hv
  injection e with e; subst e; exact hc'
theorem At.new {o : Obj} {ad : Addr} (h : ∀ i v, cs[i]? = some v → w.cell? (ad.add i) = some v) : ∀ i v, cs[i]? = some v → (w.alloc o).cell? (ad.add i) = some v :=
  fun i v hv => (World.cell?_alloc_lt _ _ _ (lt_of_cell (h i v hv))).trans (h i v hv)
theorem Ints.below (h : Ints w A xs) (hb : Below w.heap.size w w') : Ints w' A xs := At.below h hb
theorem Ints.some_ (h : Ints w A xs) (hn : 0 < xs.length) : ∃ ad, A = some ad ∧ ad.block < w.heap.size ∧ ∀ i x, xs[i]? = some x → w.cell? (ad.add i) = some (.int .i64 x) := by
  obtain ⟨ad, e, hb, hc⟩ := At.some_ h (by simpa using hn)
  exact ⟨ad, e, hb, fun i x hx => hc i _ (by simp [hx])⟩
theorem Ints.nil : Ints w A [] := At.nil
theorem Ints.mk_ {ad : Addr} (h : ∀ i x, xs[i]? = some x → w.cell? (ad.add i) = some (.int .i64 x)) : Ints w (some ad) xs := by
  intro i v hv
  simp only [List.getElem?_map, Option.map_eq_some_iff] at hv
  obtain ⟨x, hx, rfl⟩ := hv
  exact ⟨ad, rfl, h i x hx⟩
theorem At.of_own {base e size n : Nat} {c : Nat} (h : w.ownsRow base e size (.slice A n c) n cs) : At w A cs := by
  intro i v hv
  have hlt : i < cs.length := (List.getElem?_eq_some_iff.1 hv).1
  rcases h.2 with ⟨he, hn⟩ | ⟨g, cap, cur, he, _⟩
  · subst hn; have := h.1; omega
  · injection he with he
    subst he
    exact ⟨_, rfl, h.cells (g := g) rfl i v hv⟩
end

theorem below_drewN {B : Nat} {a w : World} (h : Below B a w) (n : Nat) : Below B a (w.drewN n) := ⟨h.os, h.tape, h.output, h.size, h.block⟩

/-- Below block number B, but for the blocks of S, the world w' is as w was. -/
structure Kept (B : Nat) (S : List Nat) (w w' : World) : Prop where
  os : w'.os = w.os
  tape : w'.tape = w.tape
  output : w'.output = w.output
  size : w.heap.size ≤ w'.heap.size
  block : ∀ k, k < B → k ∉ S → w'.heap[k]? = w.heap[k]?
section
variable {B B' : Nat} {S S' : List Nat} {a b w w' : World}
theorem Kept.refl (B : Nat) (S : List Nat) (w : World) : Kept B S w w := ⟨rfl, rfl, rfl, Nat.le_refl _, fun _ _ _ => rfl⟩
theorem Kept.trans (h : Kept B S a b) (k : Kept B S b w) : Kept B S a w :=
  ⟨k.os.trans h.os, k.tape.trans h.tape, k.output.trans h.output, Nat.le_trans h.size k.size, fun i hi hn => (k.block i hi hn).trans (h.block i hi hn)⟩
theorem Kept.mono (h : Kept B S w w') (hB : B' ≤ B) (hS : ∀ x ∈ S, x ∈ S' ∨ B' ≤ x) : Kept B' S' w w' :=
  ⟨h.os, h.tape, h.output, h.size, fun k hk hn => h.block k (Nat.lt_of_lt_of_le hk hB) fun hm => (hS k hm).elim hn (fun hh => by omega)⟩
theorem Kept.of_below (h : Below B w w') (S : List Nat) : Kept B S w w' := ⟨h.os, h.tape, h.output, h.size, fun k hk _ => h.block k hk⟩
theorem Kept.below (h : Kept B [] w w') : Below B w w' := ⟨h.os, h.tape, h.output, h.size, fun k hk => h.block k hk (by simp)⟩
theorem Kept.drew (h : Kept B S a w) : Kept B S a w.drew := ⟨h.os, h.tape, h.output, h.size, h.block⟩
theorem Kept.drewN (h : Kept B S a w) (n : Nat) : Kept B S a (w.drewN n) := ⟨h.os, h.tape, h.output, h.size, h.block⟩
theorem Kept.alloc (h : Kept B S a w) (hB : B ≤ w.heap.size) (o : Obj) : Kept B S a (w.alloc o) :=
  h.trans ⟨rfl, rfl, rfl, by simp, fun k hk _ => Below.heap_alloc _ _ _ (by omega)⟩
theorem Kept.setCell (h : Kept B S a w) {p : Addr} (hp : p.block ∈ S ∨ B ≤ p.block) (u : Value) : Kept B S a (w.setCell p u) :=
  h.trans ⟨rfl, rfl, rfl, by simp [World.setCell], fun k hk hn => Below.heap_setCell _ _ _ _ (by rintro rfl; rcases hp with hp | hp; exact hn hp; omega)⟩
theorem Kept.grown {row : Option Nat} (h : Kept B S a w) (hg : w.grownBy w' row) (hB : B ≤ w.heap.size) (hr : ∀ k, row = some k → k ∈ S ∨ B ≤ k) : Kept B S a w' :=
  h.trans ⟨hg.os, hg.tape, hg.output, hg.size, fun k hk hn => hg.block k (by omega) (fun e => by rcases hr k e.symm with h1 | h1; exact hn h1; omega)⟩
theorem Kept.cell (h : Kept B S w w') {p : Addr} (hp : p.block < B) (hn : p.block ∉ S) : w'.cell? p = w.cell? p := World.cell?_of_block (w := w) (h.block p.block hp hn)
end

/-- Block g is just these cells of type t, none frozen. -/
def Blk (w : World) (g : Nat) (t : TypeId) (cs : Array Value) : Prop := w.heap[g]? = some (.cells cs t (0, 0))
section
variable {w w' : World} {g : Nat} {t : TypeId} {cs : Array Value}
theorem Blk.lt (h : Blk w g t cs) : g < w.heap.size := lt_of_block h
theorem Blk.cell (h : Blk w g t cs) (i : Nat) : w.cell? ⟨g, i, none⟩ = cs[i]? := cell_of_row w g i cs t (0, 0) h
theorem Blk.frozen (h : Blk w g t cs) (i : Nat) : w.frozen? ⟨g, i, none⟩ = false := by
  unfold Blk at h
  simp [World.frozen?, h]
theorem Blk.new (w : World) (t : TypeId) (cs : Array Value) (hg : g = w.heap.size) : Blk (w.alloc (.cells cs t)) g t cs := by subst hg; exact heap_alloc_new w _
theorem Blk.drewN (h : Blk w g t cs) (n : Nat) : Blk (w.drewN n) g t cs := h
theorem Blk.alloc (h : Blk w g t cs) (o : Obj) : Blk (w.alloc o) g t cs := (Below.heap_alloc w o g h.lt).trans h
theorem Blk.set_ (h : Blk w g t cs) (i : Nat) (u : Value) : Blk (w.setCell ⟨g, i, none⟩ u) g t (cs.setIfInBounds i u) := by
  unfold Blk at h ⊢
  simp [World.setCell, Array.getElem?_modify, h]
theorem Blk.far (h : Blk w g t cs) {p : Addr} (hp : g ≠ p.block) (u : Value) : Blk (w.setCell p u) g t cs := (Below.heap_setCell w p u g hp).trans h
theorem Blk.below {B : Nat} (h : Blk w g t cs) (hb : Below B w w') (hg : g < B) : Blk w' g t cs := (hb.block g hg).trans h
theorem Blk.kept {B : Nat} {S : List Nat} (h : Blk w g t cs) (hb : Kept B S w w') (hg : g < B) (hn : g ∉ S) : Blk w' g t cs := (hb.block g hg hn).trans h
theorem Blk.grown {row : Option Nat} (h : Blk w g t cs) (hb : w.grownBy w' row) (hg : some g ≠ row) : Blk w' g t cs := (hb.block g h.lt hg).trans h
theorem Blk.at1 {a : Value} (h : Blk w g t #[a]) : w.cell? ⟨g, 0, none⟩ = some a ∧ w.frozen? ⟨g, 0, none⟩ = false := ⟨h.cell 0, h.frozen 0⟩
theorem Blk.at2 {a b : Value} (h : Blk w g t #[a, b]) : w.cell? ⟨g, 0, none⟩ = some a ∧ w.cell? ⟨g, 1, none⟩ = some b ∧ w.frozen? ⟨g, 0, none⟩ = false ∧ w.frozen? ⟨g, 1, none⟩ = false :=
  ⟨h.cell 0, h.cell 1, h.frozen 0, h.frozen 1⟩
theorem Blk.at_ (h : Blk w g t cs) : At w (some ⟨g, 0, none⟩) cs.toList := by
  intro i v hv
  refine ⟨_, rfl, ?_⟩
  have hc := h.cell i
  rw [Array.getElem?_toList] at hv
  rw [hv] at hc
  rw [← hc]
  unfold Addr.add
  split
  · rename_i h0; subst h0; rfl
  · simp
theorem Blk.ints {xs : List Int} (h : Blk w g t (xs.map (Value.int .i64)).toArray) : Ints w (some ⟨g, 0, none⟩) xs := by simpa [Ints] using h.at_
theorem Blk.ne_ {g' : Nat} {t' : TypeId} {cs' : Array Value} (h : Blk w g t cs) (h' : Blk w g' t' cs') (hne : t ≠ t') : g ≠ g' := by
  rintro rfl
  unfold Blk at h h'
  rw [h] at h'
  injection h' with h'
  injection h' with _ ht
  exact hne ht
end

/-- The cells of a row of ints. -/
def arr (xs : List Int) : Array Value := (xs.map (Value.int .i64)).toArray
theorem arr_size (xs : List Int) : (arr xs).size = xs.length := by simp [arr]
theorem arr_get (xs : List Int) (i : Nat) : (arr xs)[i]? = (xs[i]?).map (Value.int .i64) := by simp [arr]
theorem arr_set (xs : List Int) (i : Nat) (y : Int) : (arr xs).setIfInBounds i (.int .i64 y) = arr (xs.set i y) := by
  apply Array.ext'
  simp [arr, List.map_set]
theorem blk_ints {w : World} {g : Nat} {t : TypeId} {xs : List Int} (h : Blk w g t (arr xs)) : Ints w (some ⟨g, 0, none⟩) xs := Blk.ints h
theorem arr_zeros (n : Nat) : madeCells (Value.int .i64 0).cells (n * 1) = arr (List.replicate n 0) := by
  apply Array.ext'
  show (madeCells #[Value.int .i64 0] (n * 1)).toList = _
  rw [toList_madeCells_one]; simp [arr]

/-- The first place of a number in a list; -1: none. -/
def idx (xs : List Int) (y : Int) : Int := if y ∈ xs then (xs.idxOf y : Nat) else -1
def has (xs : List Int) (y : Int) : Bool := decide (y ∈ xs)
theorem idx_nonneg (xs : List Int) (y : Int) : decide (0 ≤ idx xs y) = has xs y := by
  unfold idx has; by_cases h : y ∈ xs <;> simp [h]
theorem idx_bd (xs : List Int) (y : Int) : -1 ≤ idx xs y ∧ idx xs y ≤ xs.length := by
  unfold idx
  split
  · have := List.idxOf_le_length (a := y) (l := xs); omega
  · omega
theorem take_succ' {xs : List Int} {k : Nat} {x : Int} (h : xs[k]? = some x) : xs.take (k + 1) = xs.take k ++ [x] := by
  rw [List.take_add_one, h]; rfl
theorem idx_hit {xs : List Int} {y : Int} {k : Nat} (hx : xs[k]? = some y) (hn : y ∉ xs.take k) : idx xs y = k := by
  have hk : k < xs.length := (List.getElem?_eq_some_iff.1 hx).1
  have he : xs[k] = y := (List.getElem?_eq_some_iff.1 hx).2
  have hm : y ∈ xs := by rw [← he]; exact List.getElem_mem hk
  unfold idx
  rw [if_pos hm]
  have h1 : xs = xs.take k ++ (y :: xs.drop (k + 1)) := by rw [← he, ← List.drop_eq_getElem_cons hk, List.take_append_drop]
  have : xs.idxOf y = k := by
    conv => lhs; rw [h1]
    rw [List.idxOf_append, if_neg hn]
    simp only [List.idxOf_cons, beq_self_eq_true, cond_true, List.length_take]
    omega
  rw [this]
theorem idx_miss {xs : List Int} {y : Int} (hn : y ∉ xs) : idx xs y = -1 := by unfold idx; rw [if_neg hn]
theorem nmem_take_succ {xs : List Int} {k : Nat} {x y : Int} (h : xs[k]? = some x) (hn : y ∉ xs.take k) (hne : y ≠ x) : y ∉ xs.take (k + 1) := by
  rw [take_succ' h]; simp [hn, hne]

def lmin : List Int → Int
  | [] => 0
  | x :: xs => xs.foldl min x
def lmax : List Int → Int
  | [] => 0
  | x :: xs => xs.foldl max x
theorem foldl_min_le (l : List Int) (a : Int) : l.foldl min a ≤ a ∧ ∀ x ∈ l, l.foldl min a ≤ x := by
  induction l generalizing a with
  | nil => simp
  | cons y l ih =>
    simp only [List.foldl_cons, List.mem_cons, forall_eq_or_imp]
    have := ih (min a y)
    exact ⟨by omega, by omega, this.2⟩
theorem foldl_min_mem (l : List Int) (a : Int) : l.foldl min a = a ∨ l.foldl min a ∈ l := by
  induction l generalizing a with
  | nil => simp
  | cons y l ih =>
    simp only [List.foldl_cons, List.mem_cons]
    rcases ih (min a y) with h | h
    · rw [h]; omega
    · exact .inr (.inr h)
theorem foldl_max_ge (l : List Int) (a : Int) : a ≤ l.foldl max a ∧ ∀ x ∈ l, x ≤ l.foldl max a := by
  induction l generalizing a with
  | nil => simp
  | cons y l ih =>
    simp only [List.foldl_cons, List.mem_cons, forall_eq_or_imp]
    have := ih (max a y)
    exact ⟨by omega, by omega, this.2⟩
theorem foldl_max_mem (l : List Int) (a : Int) : l.foldl max a = a ∨ l.foldl max a ∈ l := by
  induction l generalizing a with
  | nil => simp
  | cons y l ih =>
    simp only [List.foldl_cons, List.mem_cons]
    rcases ih (max a y) with h | h
    · rw [h]; omega
    · exact .inr (.inr h)
theorem lmin_ge {xs : List Int} (h : xs ≠ []) (m : Int) : m ≤ lmin xs ↔ ∀ x ∈ xs, m ≤ x := by
  cases xs with
  | nil => exact absurd rfl h
  | cons x xs =>
    have h1 := foldl_min_le xs x
    have h2 := foldl_min_mem xs x
    simp only [lmin, List.mem_cons, forall_eq_or_imp]
    constructor
    · intro hm; exact ⟨by omega, fun y hy => by have := h1.2 y hy; omega⟩
    · rintro ⟨ha, hb⟩
      rcases h2 with h2 | h2
      · omega
      · exact hb _ h2
theorem lmax_le {xs : List Int} (h : xs ≠ []) (m : Int) : lmax xs ≤ m ↔ ∀ x ∈ xs, x ≤ m := by
  cases xs with
  | nil => exact absurd rfl h
  | cons x xs =>
    have h1 := foldl_max_ge xs x
    have h2 := foldl_max_mem xs x
    simp only [lmax, List.mem_cons, forall_eq_or_imp]
    constructor
    · intro hm; exact ⟨by omega, fun y hy => by have := h1.2 y hy; omega⟩
    · rintro ⟨ha, hb⟩
      rcases h2 with h2 | h2
      · omega
      · exact hb _ h2
theorem lmin_take {xs : List Int} {k : Nat} {x : Int} (h : xs[k]? = some x) (hk : 0 < k) : lmin (xs.take (k + 1)) = min (lmin (xs.take k)) x := by
  rw [take_succ' h]
  have hl : k < xs.length := (List.getElem?_eq_some_iff.1 h).1
  cases hx : xs.take k with
  | nil => have h0 : (xs.take k).length = k := by simp; omega
           rw [hx] at h0; simp at h0; omega
  | cons a l => simp [lmin, List.foldl_append]
theorem lmax_take {xs : List Int} {k : Nat} {x : Int} (h : xs[k]? = some x) (hk : 0 < k) : lmax (xs.take (k + 1)) = max (lmax (xs.take k)) x := by
  rw [take_succ' h]
  have hl : k < xs.length := (List.getElem?_eq_some_iff.1 h).1
  cases hx : xs.take k with
  | nil => have h0 : (xs.take k).length = k := by simp; omega
           rw [hx] at h0; simp at h0; omega
  | cons a l => simp [lmax, List.foldl_append]
theorem ret_int {k : IntKind} {a b : Int} (h : a = b) : Ending.returned (.int k a) = .returned (.int k b) := by rw [h]
theorem val_int {k : IntKind} {a b : Int} (h : a = b) : Value.int k a = .int k b := by rw [h]
theorem ret_bool {a b : Bool} (h : a = b) : Ending.returned (.bool a) = .returned (.bool b) := by rw [h]
end Go.Proofs.Ytkljambjdiblkaa
