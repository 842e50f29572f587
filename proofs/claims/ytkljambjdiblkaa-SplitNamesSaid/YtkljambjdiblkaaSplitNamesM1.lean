/- Laws and contracts that the proof of SplitNames uses, part 1. -/
import Derived.WalkKit
import Derived.WalkSpells
import Derived.WalkLawsBesides
import Derived.Lib.Hide
import Derived.Deep.QuietTactic
import Derived.BigQuiet
import Derived.Handy
import Derived.Test.YtkljambjdiblkaaRows
import Derived.ProofKit
import Derived.OpenShut
import Derived.Test.YtkljambjdiblkaaProg
import Derived.Laws.AppendOwnNone
import Derived.Deep.SlicePairs
import Derived.Deep.LoopGhost
namespace Go.Proofs.Ytkljambjdiblkaa
open Go.RowKit

/- Words for memory that the walks of this seat share: a slice of ints, of fractions, of slices, read in a world; what a call may have turned. Plain lemmas, no program. -/

/-- The cells from A on hold these values. -/
def At (w : World) (A : Option Addr) (cs : List Value) : Prop := ∀ i v, cs[i]? = some v → ∃ ad, A = some ad ∧ w.cell? (ad.add i) = some v

/-- The slice at A reads as these ints. -/
def Ints (w : World) (A : Option Addr) (xs : List Int) : Prop := At w A (xs.map (Value.int .i64))

theorem add_block (a : Addr) (n : Nat) : (a.add n).block = a.block := by unfold Addr.add; split <;> rfl
theorem add_add (a : Addr) (i j : Nat) : (a.add i).add j = a.add (i + j) := by
  unfold Addr.add
  by_cases hi : i = 0 <;> by_cases hj : j = 0 <;> simp [hi, hj, Nat.add_assoc]

theorem lt_of_cell {w : World} {p : Addr} {v : Value} (h : w.cell? p = some v) : p.block < w.heap.size := by
  rcases Nat.lt_or_ge p.block w.heap.size with hlt | hge
  · exact hlt
  · simp [World.cell?, Array.getElem?_eq_none hge] at h

section
variable {w w' : World} {A : Option Addr} {cs : List Value} {xs : List Int}
theorem At.keep (h : At w A cs) (hk : ∀ p v, w.cell? p = some v → w'.cell? p = some v) : At w' A cs :=
  fun i v hv => let ⟨ad, e, hc⟩ := h i v hv; ⟨ad, e, hk _ _ hc⟩
theorem At.below (h : At w A cs) (hb : Below w.heap.size w w') : At w' A cs :=
  h.keep fun _ _ hc => (hb.cell (lt_of_cell hc)).trans hc
theorem At.nil : At w A [] := fun i v h => by simp at h
theorem At.some_ (h : At w A cs) (hn : 0 < cs.length) : ∃ ad, A = some ad ∧ ad.block < w.heap.size ∧ ∀ i v, cs[i]? = some v → w.cell? (ad.add i) = some v := by
  obtain ⟨ad, rfl, hc⟩ := h 0 _ (List.getElem?_eq_getElem hn)
  refine ⟨ad, rfl, ?_, fun i v hv => ?_⟩
  · have := lt_of_cell hc; rwa [add_block] at this
  · obtain ⟨ad', e, hc'⟩ := h i v hv
    injection e with e; subst e; exact hc'
theorem At.some2 {ad : Addr} (h : At w (some ad) cs) : ∀ i v, cs[i]? = some v → w.cell? (ad.add i) = some v := by
  intro i v hv
  obtain ⟨ad', e, hc'⟩ := h i v hv
  injection e with e; subst e; exact hc'
theorem At.new {o : Obj} {ad : Addr} (h : ∀ i v, cs[i]? = some v → w.cell? (ad.add i) = some v) : ∀ i v, cs[i]? = some v → (w.alloc o).cell? (ad.add i) = some v :=
  fun i v hv => (World.cell?_alloc_lt _ _ _ (lt_of_cell (h i v hv))).trans (h i v hv)
theorem Ints.below (h : Ints w A xs) (hb : Below w.heap.size w w') : Ints w' A xs := At.below h hb
theorem Ints.some_ (h : Ints w A xs) (hn : 0 < xs.length) : ∃ ad, A = some ad ∧ ad.block < w.heap.size ∧ ∀ i x, xs[i]? = some x → w.cell? (ad.add i) = some (.int .i64 x) := by
  obtain ⟨ad, e, hb, hc⟩ := At.some_ h (by simpa using hn)
  exact ⟨ad, e, hb, fun i x hx => hc i _ (by simp [hx])⟩
theorem Ints.nil : Ints w A [] := At.nil
theorem Ints.mk_ {ad : Addr} (h : ∀ i x, xs[i]? = some x → w.cell? (ad.add i) = some (.int .i64 x)) : Ints w (some ad) xs := by
  intro i v hv
  simp only [List.getElem?_map, Option.map_eq_some_iff] at hv
  obtain ⟨x, hx, rfl⟩ := hv
  exact ⟨ad, rfl, h i x hx⟩
theorem At.of_own {base e size n : Nat} {c : Nat} (h : w.ownsRow base e size (.slice A n c) n cs) : At w A cs := by
  intro i v hv
  have hlt : i < cs.length := (List.getElem?_eq_some_iff.1 hv).1
  rcases h.2 with ⟨he, hn⟩ | ⟨g, cap, cur, he, _⟩
  · subst hn; have := h.1; omega
  · injection he with he
    subst he
    exact ⟨_, rfl, h.cells (g := g) rfl i v hv⟩
end

theorem below_drewN {B : Nat} {a w : World} (h : Below B a w) (n : Nat) : Below B a (w.drewN n) := ⟨h.os, h.tape, h.output, h.size, h.block⟩

/-- Below block number B, but for the blocks of S, the world w' is as w was. -/
structure Kept (B : Nat) (S : List Nat) (w w' : World) : Prop where
  os : w'.os = w.os
  tape : w'.tape = w.tape
  output : w'.output = w.output
  size : w.heap.size ≤ w'.heap.size
  block : ∀ k, k < B → k ∉ S → w'.heap[k]? = w.heap[k]?
section
variable {B B' : Nat} {S S' : List Nat} {a b w w' : World}
theorem Kept.refl (B : Nat) (S : List Nat) (w : World) : Kept B S w w := ⟨rfl, rfl, rfl, Nat.le_refl _, fun _ _ _ => rfl⟩
theorem Kept.trans (h : Kept B S a b) (k : Kept B S b w) : Kept B S a w :=
  ⟨k.os.trans h.os, k.tape.trans h.tape, k.output.trans h.output, Nat.le_trans h.size k.size, fun i hi hn => (k.block i hi hn).trans (h.block i hi hn)⟩
theorem Kept.mono (h : Kept B S w w') (hB : B' ≤ B) (hS : ∀ x ∈ S, x ∈ S' ∨ B' ≤ x) : Kept B' S' w w' :=
  ⟨h.os, h.tape, h.output, h.size, fun k hk hn => h.block k (Nat.lt_of_lt_of_le hk hB) fun hm => (hS k hm).elim hn (fun hh => by omega)⟩
theorem Kept.of_below (h : Below B w w') (S : List Nat) : Kept B S w w' := ⟨h.os, h.tape, h.output, h.size, fun k hk _ => h.block k hk⟩
theorem Kept.below (h : Kept B [] w w') : Below B w w' := ⟨h.os, h.tape, h.output, h.size, fun k hk => h.block k hk (by simp)⟩
theorem Kept.drew (h : Kept B S a w) : Kept B S a w.drew := ⟨h.os, h.tape, h.output, h.size, h.block⟩
theorem Kept.drewN (h : Kept B S a w) (n : Nat) : Kept B S a (w.drewN n) := ⟨h.os, h.tape, h.output, h.size, h.block⟩
theorem Kept.alloc (h : Kept B S a w) (hB : B ≤ w.heap.size) (o : Obj) : Kept B S a (w.alloc o) :=
  h.trans ⟨rfl, rfl, rfl, by simp, fun k hk _ => Below.heap_alloc _ _ _ (by omega)⟩
theorem Kept.setCell (h : Kept B S a w) {p : Addr} (hp : p.block ∈ S ∨ B ≤ p.block) (u : Value) : Kept B S a (w.setCell p u) :=
  h.trans ⟨rfl, rfl, rfl, by simp [World.setCell], fun k hk hn => Below.heap_setCell _ _ _ _ (by rintro rfl; rcases hp with hp | hp; exact hn hp; omega)⟩
theorem Kept.grown {row : Option Nat} (h : Kept B S a w) (hg : w.grownBy w' row) (hB : B ≤ w.heap.size) (hr : ∀ k, row = some k → k ∈ S ∨ B ≤ k) : Kept B S a w' :=
  h.trans ⟨hg.os, hg.tape, hg.output, hg.size, fun k hk hn => hg.block k (by omega) (fun e => by rcases hr k e.symm with h1 | h1; exact hn h1; omega)⟩
theorem Kept.cell (h : Kept B S w w') {p : Addr} (hp : p.block < B) (hn : p.block ∉ S) : w'.cell? p = w.cell? p := World.cell?_of_block (w := w) (h.block p.block hp hn)
end

/-- Block g is just these cells of type t, none frozen. -/
def Blk (w : World) (g : Nat) (t : TypeId) (cs : Array Value) : Prop := w.heap[g]? = some (.cells cs t (0, 0))
section
variable {w w' : World} {g : Nat} {t : TypeId} {cs : Array Value}
theorem Blk.lt (h : Blk w g t cs) : g < w.heap.size := lt_of_block h
theorem Blk.cell (h : Blk w g t cs) (i : Nat) : w.cell? ⟨g, i, none⟩ = cs[i]? := cell_of_row w g i cs t (0, 0) h
theorem Blk.frozen (h : Blk w g t cs) (i : Nat) : w.frozen? ⟨g, i, none⟩ = false := by
  unfold Blk at h
  simp [World.frozen?, h]
theorem Blk.new (w : World) (t : TypeId) (cs : Array Value) (hg : g = w.heap.size) : Blk (w.alloc (.cells cs t)) g t cs := by subst hg; exact heap_alloc_new w _
theorem Blk.drewN (h : Blk w g t cs) (n : Nat) : Blk (w.drewN n) g t cs := h
theorem Blk.alloc (h : Blk w g t cs) (o : Obj) : Blk (w.alloc o) g t cs := (Below.heap_alloc w o g h.lt).trans h
theorem Blk.set_ (h : Blk w g t cs) (i : Nat) (u : Value) : Blk (w.setCell ⟨g, i, none⟩ u) g t (cs.setIfInBounds i u) := by
  unfold Blk at h ⊢
  simp [World.setCell, Array.getElem?_modify, h]
theorem Blk.far (h : Blk w g t cs) {p : Addr} (hp : g ≠ p.block) (u : Value) : Blk (w.setCell p u) g t cs := (Below.heap_setCell w p u g hp).trans h
theorem Blk.below {B : Nat} (h : Blk w g t cs) (hb : Below B w w') (hg : g < B) : Blk w' g t cs := (hb.block g hg).trans h
theorem Blk.kept {B : Nat} {S : List Nat} (h : Blk w g t cs) (hb : Kept B S w w') (hg : g < B) (hn : g ∉ S) : Blk w' g t cs := (hb.block g hg hn).trans h
theorem Blk.grown {row : Option Nat} (h : Blk w g t cs) (hb : w.grownBy w' row) (hg : some g ≠ row) : Blk w' g t cs := (hb.block g h.lt hg).trans h
theorem Blk.at1 {a : Value} (h : Blk w g t #[a]) : w.cell? ⟨g, 0, none⟩ = some a ∧ w.frozen? ⟨g, 0, none⟩ = false := ⟨h.cell 0, h.frozen 0⟩
theorem Blk.at2 {a b : Value} (h : Blk w g t #[a, b]) : w.cell? ⟨g, 0, none⟩ = some a ∧ w.cell? ⟨g, 1, none⟩ = some b ∧ w.frozen? ⟨g, 0, none⟩ = false ∧ w.frozen? ⟨g, 1, none⟩ = false :=
  ⟨h.cell 0, h.cell 1, h.frozen 0, h.frozen 1⟩
theorem Blk.at_ (h : Blk w g t cs) : At w (some ⟨g, 0, none⟩) cs.toList := by
  intro i v hv
  refine ⟨_, rfl, ?_⟩
  have hc := h.cell i
  rw [Array.getElem?_toList] at hv
  rw [hv] at hc
  rw [← hc]
  unfold Addr.add
  split
  · rename_i h0; subst h0; rfl
  · simp
theorem Blk.ints {xs : List Int} (h : Blk w g t (xs.map (Value.int .i64)).toArray) : Ints w (some ⟨g, 0, none⟩) xs := by simpa [Ints] using h.at_
theorem Blk.ne_ {g' : Nat} {t' : TypeId} {cs' : Array Value} (h : Blk w g t cs) (h' : Blk w g' t' cs') (hne : t ≠ t') : g ≠ g' := by
  rintro rfl
  unfold Blk at h h'
  rw [h] at h'
  injection h' with h'
  injection h' with _ ht
  exact hne ht
end

/-- The cells of a row of ints. -/
def arr (xs : List Int) : Array Value := (xs.map (Value.int .i64)).toArray
theorem arr_size (xs : List Int) : (arr xs).size = xs.length := by simp [arr]
theorem arr_get (xs : List Int) (i : Nat) : (arr xs)[i]? = (xs[i]?).map (Value.int .i64) := by simp [arr]
theorem arr_set (xs : List Int) (i : Nat) (y : Int) : (arr xs).setIfInBounds i (.int .i64 y) = arr (xs.set i y) := by
  apply Array.ext'
  simp [arr, List.map_set]
theorem blk_ints {w : World} {g : Nat} {t : TypeId} {xs : List Int} (h : Blk w g t (arr xs)) : Ints w (some ⟨g, 0, none⟩) xs := Blk.ints h
theorem arr_zeros (n : Nat) : madeCells (Value.int .i64 0).cells (n * 1) = arr (List.replicate n 0) := by
  apply Array.ext'
  show (madeCells #[Value.int .i64 0] (n * 1)).toList = _
  rw [toList_madeCells_one]; simp [arr]

/-- The first place of a number in a list; -1: none. -/
def idx (xs : List Int) (y : Int) : Int := if y ∈ xs then (xs.idxOf y : Nat) else -1
def has (xs : List Int) (y : Int) : Bool := decide (y ∈ xs)
theorem idx_nonneg (xs : List Int) (y : Int) : decide (0 ≤ idx xs y) = has xs y := by
  unfold idx has; by_cases h : y ∈ xs <;> simp [h]
theorem idx_bd (xs : List Int) (y : Int) : -1 ≤ idx xs y ∧ idx xs y ≤ xs.length := by
  unfold idx
  split
  · have := List.idxOf_le_length (a := y) (l := xs); omega
  · omega
theorem take_succ' {xs : List Int} {k : Nat} {x : Int} (h : xs[k]? = some x) : xs.take (k + 1) = xs.take k ++ [x] := by
  rw [List.take_add_one, h]; rfl
theorem idx_hit {xs : List Int} {y : Int} {k : Nat} (hx : xs[k]? = some y) (hn : y ∉ xs.take k) : idx xs y = k := by
  have hk : k < xs.length := (List.getElem?_eq_some_iff.1 hx).1
  have he : xs[k] = y := (List.getElem?_eq_some_iff.1 hx).2
  have hm : y ∈ xs := by rw [← he]; exact List.getElem_mem hk
  unfold idx
  rw [if_pos hm]
  have h1 : xs = xs.take k ++ (y :: xs.drop (k + 1)) := by rw [← he, ← List.drop_eq_getElem_cons hk, List.take_append_drop]
  have : xs.idxOf y = k := by
    conv => lhs; rw [h1]
    rw [List.idxOf_append, if_neg hn]
    simp only [List.idxOf_cons, beq_self_eq_true, cond_true, List.length_take]
    omega
  rw [this]
theorem idx_miss {xs : List Int} {y : Int} (hn : y ∉ xs) : idx xs y = -1 := by unfold idx; rw [if_neg hn]
theorem nmem_take_succ {xs : List Int} {k : Nat} {x y : Int} (h : xs[k]? = some x) (hn : y ∉ xs.take k) (hne : y ≠ x) : y ∉ xs.take (k + 1) := by
  rw [take_succ' h]; simp [hn, hne]

def lmin : List Int → Int
  | [] => 0
  | x :: xs => xs.foldl min x
def lmax : List Int → Int
  | [] => 0
  | x :: xs => xs.foldl max x
theorem foldl_min_le (l : List Int) (a : Int) : l.foldl min a ≤ a ∧ ∀ x ∈ l, l.foldl min a ≤ x := by
  induction l generalizing a with
  | nil => simp
  | cons y l ih =>
    simp only [List.foldl_cons, List.mem_cons, forall_eq_or_imp]
    have := ih (min a y)
    exact ⟨by omega, by omega, this.2⟩
theorem foldl_min_mem (l : List Int) (a : Int) : l.foldl min a = a ∨ l.foldl min a ∈ l := by
  induction l generalizing a with
  | nil => simp
  | cons y l ih =>
    simp only [List.foldl_cons, List.mem_cons]
    rcases ih (min a y) with h | h
    · rw [h]; omega
    · exact .inr (.inr h)
theorem foldl_max_ge (l : List Int) (a : Int) : a ≤ l.foldl max a ∧ ∀ x ∈ l, x ≤ l.foldl max a := by
  induction l generalizing a with
  | nil => simp
  | cons y l ih =>
    simp only [List.foldl_cons, List.mem_cons, forall_eq_or_imp]
    have := ih (max a y)
    exact ⟨by omega, by omega, this.2⟩
theorem foldl_max_mem (l : List Int) (a : Int) : l.foldl max a = a ∨ l.foldl max a ∈ l := by
  induction l generalizing a with
  | nil => simp
  | cons y l ih =>
    simp only [List.foldl_cons, List.mem_cons]
    rcases ih (max a y) with h | h
    · rw [h]; omega
    · exact .inr (.inr h)
theorem lmin_ge {xs : List Int} (h : xs ≠ []) (m : Int) : m ≤ lmin xs ↔ ∀ x ∈ xs, m ≤ x := by
  cases xs with
  | nil => exact absurd rfl h
  | cons x xs =>
    have h1 := foldl_min_le xs x
    have h2 := foldl_min_mem xs x
    simp only [lmin, List.mem_cons, forall_eq_or_imp]
    constructor
    · intro hm; exact ⟨by omega, fun y hy => by have := h1.2 y hy; omega⟩
    · rintro ⟨ha, hb⟩
      rcases h2 with h2 | h2
      · omega
      · exact hb _ h2
theorem lmax_le {xs : List Int} (h : xs ≠ []) (m : Int) : lmax xs ≤ m ↔ ∀ x ∈ xs, x ≤ m := by
  cases xs with
  | nil => exact absurd rfl h
  | cons x xs =>
    have h1 := foldl_max_ge xs x
    have h2 := foldl_max_mem xs x
    simp only [lmax, List.mem_cons, forall_eq_or_imp]
    constructor
    · intro hm; exact ⟨by omega, fun y hy => by have := h1.2 y hy; omega⟩
    · rintro ⟨ha, hb⟩
      rcases h2 with h2 | h2
      · omega
      · exact hb _ h2
theorem lmin_take {xs : List Int} {k : Nat} {x : Int} (h : xs[k]? = some x) (hk : 0 < k) : lmin (xs.take (k + 1)) = min (lmin (xs.take k)) x := by
  rw [take_succ' h]
  have hl : k < xs.length := (List.getElem?_eq_some_iff.1 h).1
  cases hx : xs.take k with
  | nil => have h0 : (xs.take k).length = k := by simp; omega
           rw [hx] at h0; simp at h0; omega
  | cons a l => simp [lmin, List.foldl_append]
theorem lmax_take {xs : List Int} {k : Nat} {x : Int} (h : xs[k]? = some x) (hk : 0 < k) : lmax (xs.take (k + 1)) = max (lmax (xs.take k)) x := by
  rw [take_succ' h]
  have hl : k < xs.length := (List.getElem?_eq_some_iff.1 h).1
  cases hx : xs.take k with
  | nil => have h0 : (xs.take k).length = k := by simp; omega
           rw [hx] at h0; simp at h0; omega
  | cons a l => simp [lmax, List.foldl_append]
theorem ret_int {k : IntKind} {a b : Int} (h : a = b) : Ending.returned (.int k a) = .returned (.int k b) := by rw [h]
theorem val_int {k : IntKind} {a b : Int} (h : a = b) : Value.int k a = .int k b := by rw [h]
theorem ret_bool {a b : Bool} (h : a = b) : Ending.returned (.bool a) = .returned (.bool b) := by rw [h]

/- The step from a statement's walk to its row: the arguments opened, and read again behind the call. -/
open Go.ChangeShapes Go.WideShapes Go.ChangeAt Go.RowKit Go.WideMaps Go.WideElems

theorem t_own : ownKnob Try.prog.godebug = none := by kernel_rfl
theorem t_laidOut : laidOutB Try.prog = true := by kernel_rfl

section
variable {H : Type} {enc : TypeId × Value → H}

theorem post_of_below {P : Program} {f : Func} {s : ChangeSpec} {apart fresh handsOn again : Bool} {W W' : World} {args : Array Value} {v : Value} {ds gs : List (DataW H)} {before pa pv : List MemPlace}
    (hW : DataW.Whole enc P f.params.toList s.vars apart W args.toList ds gs before)
    (hres : ∀ (b : Nat) (sp : Nat → Bool) (hd : Bool), DataW.TrodAll enc P W' b sp hd f.resultTypes.toList (v.resultList f.resultTypes.size) (s.fn H (ds ++ gs)).results [])
    (hargs : ∀ sp : Nat → Bool, (∀ p ∈ before, sp p.block = true) → DataW.TrodAll enc P W' 0 sp true f.params.toList args.toList (s.fn H (ds ++ gs)).args pa)
    (hvars : ∀ sp : Nat → Bool, (∀ p ∈ before, sp p.block = true) → DataW.TrodVars enc P W' sp s.vars (s.fn H (ds ++ gs)).vars pv)
    (hps : before = pa ++ pv) (hb : Below W.heap.size W W')
    (hok : ∀ (j : Nat) (t : TypeId) (r : Value), f.resultTypes[j]? = some t → (v.resultList f.resultTypes.size)[j]? = some r → Value.okWide P W' .any 0 t r) :
    s.post enc P f apart fresh handsOn again W args v W' := by
  have hlt : ∀ p ∈ before, p.block < W.heap.size := fun p hp => hW.lt p hp
  have hold : ∀ p ∈ before, (fun b => decide (b < W.heap.size)) p.block = true := fun p hp => by simpa using hlt p hp
  refine ⟨ds, gs, before, [], pa, pv, hW, hres _ _ _, hargs _ hold, hvars _ hold, World.keptBut_mono (fun p hp => ⟨hp, ?_⟩) (hb.frame (· ∈ before)), fun _ => ?_⟩
  · rw [hps, List.mem_append] at hp
    exact Or.inr hp
  · obtain ⟨_, _, _, _, _, hz, hn⟩ := hW
    refine ⟨hok, _, _, ([] ++ pa) ++ pv, ⟨[] ++ pa, pv, trodAll_append (hargs _ (fun _ _ => rfl)) (hres _ _ _), hvars _ (fun _ _ => rfl), rfl, ?_, ?_⟩, ?_⟩
    · intro b off hp
      have hin : MemPlace.cell b off ∈ before := by rw [hps]; simpa using hp
      rw [hb.frozen (hlt _ hin)]
      exact hz b off hin
    · intro ha
      have := hn ha
      rw [hps] at this
      simpa using this
    · intro p hp _
      rw [hps]
      simpa using hp

/-- All arguments read behind the call as before it. -/
theorem trodAll_below {W W' : World} (hb : Below W.heap.size W W') (sp : Nat → Bool) : ∀ (ts : List TypeId) (vs : List Value) (ds : List (DataW H)) (ps : List MemPlace),
    (∀ t ∈ ts, Try.prog.readableRec t = true ∧ t < Try.prog.types.size) → (∀ x ∈ ps, x.block < W.heap.size) → (∀ x ∈ ps, sp x.block = true) →
    DataW.TrodAll enc Try.prog W 0 (fun _ => true) true ts vs ds ps → DataW.TrodAll enc Try.prog W' 0 sp true ts vs ds ps
  | [], [], [], _, _, _, _, h => h
  | t :: ts, v :: vs, d :: ds, ps, hr, hlt, hsp, h => by
    obtain ⟨p, q, h1, h2, rfl⟩ := h
    refine ⟨p, q, ?_, ?_, rfl⟩
    · exact WideElems.Trod_stays t_laidOut (hr t (by simp)).1 (hr t (by simp)).2 h1 (fun x hx => hb.same (hlt x (by simp [hx]))) (fun x hx => hsp x (by simp [hx]))
    · exact trodAll_below hb sp ts vs ds q (fun t' ht' => hr t' (by simp [ht'])) (fun x hx => hlt x (by simp [hx])) (fun x hx => hsp x (by simp [hx])) h2
  | [], [], _ :: _, _, _, _, _, h => h.elim
  | [], _ :: _, _, _, _, _, _, h => h.elim
  | _ :: _, [], _, _, _, _, _, h => h.elim
  | _ :: _, _ :: _, [], _, _, _, _, h => h.elim

/-- A slice of ints among the arguments, opened. -/
theorem open_intsI {W : World} {v : Value} {d : DataW H} {p : List MemPlace} {spare : Nat → Bool} {b : Nat} (h : DataW.Trod enc Try.prog W b spare true 23 v d p)
    (hv : ∃ a len cap, v = .slice a len cap) :
    ∃ A n cap xs, v = .slice A n cap ∧ xs.length = n ∧ n ≤ cap ∧ cap ≤ 9223372036854775807 ∧ Ints W A xs ∧ ∀ x ∈ xs, -9223372036854775808 ≤ x ∧ x ≤ 9223372036854775807 := by
  obtain ⟨a0, len, cap, rfl⟩ := hv
  obtain ⟨fuel, hf⟩ := h
  rcases open_ints Try.underlying23 Try.underlying3 (by kernel_rfl) hf with ⟨hcs, _⟩ | ⟨a, len', cap', zs, hcs, _, hl, hm, hz, _, hcell, hwz⟩
  · have e : Value.slice a0 len cap = .slice none 0 0 := by simpa [Value.cells] using hcs
    rw [e]
    exact ⟨none, 0, 0, [], rfl, rfl, by omega, by omega, Ints.nil, by simp⟩
  · have e : Value.slice a0 len cap = .slice (some a) len' cap' := by simpa [Value.cells] using hcs
    rw [e]
    have hzl : len' ≤ zs.length := by rw [hz]; split <;> omega
    refine ⟨some a, len', cap', zs.take len', rfl, by rw [List.length_take]; omega, hl, by unfold maxLen at hm; omega, ?_, ?_⟩
    · refine Ints.mk_ fun i x hx => ?_
      have hi : i < len' := by
        have := (List.getElem?_eq_some_iff.1 hx).1; rw [List.length_take] at this; omega
      rw [List.getElem?_take_of_lt hi] at hx
      have := hcell i (by omega)
      rwa [List.getD_eq_getElem?_getD, hx] at this
    · intro x hx
      have := hwz x (List.mem_of_mem_take hx)
      simp [Lit.wf, IntKind.min, IntKind.max, IntKind.signed, IntKind.bits] at this
      omega
end

/- An int among a statement's arguments, opened. -/
open Go.ChangeShapes Go.WideShapes Go.ChangeAt Go.RowKit

section
variable {H : Type} {enc : TypeId × Value → H}
set_option maxRecDepth 100000 in
theorem open_intI {W : World} {v : Value} {d : DataW H} {p : List MemPlace} {spare : Nat → Bool} {b b0 : Nat} {r : Reach} (h : DataW.Trod enc Try.prog W b spare true 3 v d p) (hv : Value.okWide Try.prog W r b0 3 v) :
    ∃ i : Int, v = .int .i64 i ∧ -9223372036854775808 ≤ i ∧ i ≤ 9223372036854775807 := by
  obtain ⟨n, h1, _, _, h2⟩ := open_int Try.underlying3 hv h
  refine ⟨n, h1, ?_⟩
  simp [Lit.wf, IntKind.min, IntKind.max, IntKind.signed, IntKind.bits] at h2
  omega
end

/- What goods are worth: plain Lean. -/

/-- Row i of values. -/
def rowV (V : List (List Int)) (i : Nat) : List Int := V.getD i []
/-- Numbers from 0 to 100. -/
def in100 (x : Int) : Bool := decide (0 ≤ x) && decide (x ≤ 100)
/-- Values of n people for m goods. -/
def valV (V : List (List Int)) : Bool := decide (1 ≤ V.length) && decide (V.length ≤ 4) && decide (1 ≤ (rowV V 0).length) && decide ((rowV V 0).length ≤ 7) && V.all fun r => decide (r.length = (rowV V 0).length) && r.all in100
theorem valV_iff {V : List (List Int)} : valV V = true ↔ (1 ≤ V.length ∧ V.length ≤ 4) ∧ (1 ≤ (rowV V 0).length ∧ (rowV V 0).length ≤ 7) ∧ ∀ r ∈ V, r.length = (rowV V 0).length ∧ ∀ x ∈ r, 0 ≤ x ∧ x ≤ 100 := by
  simp only [valV, Bool.and_eq_true, decide_eq_true_eq, List.all_eq_true, in100, and_assoc]
theorem rowV_get {V : List (List Int)} {i : Nat} {r : List Int} (h : V[i]? = some r) : rowV V i = r := by unfold rowV; rw [List.getD_eq_getElem?_getD, h]; rfl

/-- What the goods before g that j has are worth by a row. -/
def worTo (row d : List Int) (j : Int) : Nat → Int
  | 0 => 0
  | g + 1 => worTo row d j g + if d.getD g 0 = j then row.getD g 0 else 0
def wor (V : List (List Int)) (d : List Int) (i : Nat) (j : Int) : Int := worTo (rowV V i) d j d.length
theorem worTo_bd {row : List Int} (h : ∀ x ∈ row, 0 ≤ x ∧ x ≤ 100) (d : List Int) (j : Int) (g : Nat) : 0 ≤ worTo row d j g ∧ worTo row d j g ≤ 100 * g := by
  induction g with
  | zero => simp [worTo]
  | succ g ih =>
    have hb : 0 ≤ row.getD g 0 ∧ row.getD g 0 ≤ 100 := by
      rw [List.getD_eq_getElem?_getD]
      cases hx : row[g]? with
      | none => simp
      | some x => exact h x (List.mem_of_getElem? hx)
    have e : (100 : Int) * ((g + 1 : Nat) : Int) = 100 * g + 100 := by omega
    rw [e]
    simp only [worTo]
    split <;> omega
/-- What everyone has, by their own values. -/
def ownV (V : List (List Int)) (d : List Int) (k : Nat) : List Int := (List.range k).map fun i => wor V d i (i : Int)
theorem ownV_length (V : List (List Int)) (d : List Int) (k : Nat) : (ownV V d k).length = k := by simp [ownV]
theorem ownV_succ (V : List (List Int)) (d : List Int) (k : Nat) : ownV V d (k + 1) = ownV V d k ++ [wor V d k (k : Int)] := by simp [ownV, List.range_succ]
theorem ownV_get {V : List (List Int)} {d : List Int} {k i : Nat} (h : i < k) : (ownV V d k)[i]? = some (wor V d i (i : Int)) := by simp [ownV, h]

/- Contracts of the slice functions of Go's library that this seat's code calls: Index, Contains, Min, Max over ints. -/

set_option maxHeartbeats 400000 in
theorem index_any (A : Option Addr) (n cap : Nat) (xs : List Int) (y : Int) (w : World) (hl : xs.length = n) (hm : n ≤ 9223372036854775807) (h : Ints w A xs) :
    Calls Try.prog 73 #[.slice A n cap, .int .i64 y] w fun e w' => e = .returned (.int .i64 (idx xs y)) ∧ w = w' := by
  by_cases h0 : n = 0
  · subst h0
    obtain rfl : xs = [] := List.eq_nil_of_length_eq_zero hl
    go_enter Try.func73, Try.ntmps73
    go_wp2
    refine wp_loop_rounds 1 ?_
    rw [rounds_succ]
    go_wp2
    go_ret
    exact ⟨rfl, rfl⟩
  · obtain ⟨ad, rfl, hb, hc⟩ := h.some_ (by omega)
    have HC := Lib.hid hc
    have HL := Lib.hid hl
    clear hc hl h hb
    go_enter Try.func73, Try.ntmps73
    go_wp2
    go_loop [8] (fun i => ∃ k : Nat, k ≤ n ∧ i = .int .i64 k ∧ y ∉ xs.take k) (fun i => n - (intOf i).toNat)
    case atStart => exact ⟨0, Nat.zero_le _, rfl, by simp⟩
    case round =>
      obtain ⟨k, hk, rfl, hn⟩ := hrel
      have HN := Lib.hid hn
      clear hn
      by_cases hlt : k < n
      · obtain ⟨x, hx⟩ : ∃ x, xs[k]? = some x := ⟨_, List.getElem?_eq_getElem (by rw [HL.out]; exact hlt)⟩
        have hcell := HC.out k x hx
        have HX := Lib.hid hx
        clear hx
        by_cases he : y = x
        · subst he
          go_wp2
          go_ret
          exact ⟨ret_int (idx_hit HX.out HN.out).symm, rfl⟩
        · have hne : (y == x) = false := by simpa using he
          clear he
          go_wp2
          go_round
          case rel => exact ⟨k + 1, by omega, by go_num, nmem_take_succ HX.out HN.out (by simpa using hne)⟩
          case measure => simp [intOf]; omega
      · go_wp2
        go_ret
        exact ⟨ret_int (idx_miss (by have := HN.out; rwa [List.take_of_length_le (by rw [HL.out]; omega)] at this)).symm, rfl⟩

theorem contains_any (A : Option Addr) (n cap : Nat) (xs : List Int) (y : Int) (w : World) (hl : xs.length = n) (hm : n ≤ 9223372036854775807) (h : Ints w A xs) :
    Calls Try.prog 99 #[.slice A n cap, .int .i64 y] w fun e w' => e = .returned (.bool (has xs y)) ∧ w = w' := by
  rw [← idx_nonneg]
  go_enter Try.func99, Try.ntmps99
  go_wp2_with fail
  refine (index_any A n cap xs y _ hl hm h).mono ?_
  rintro e w' ⟨rfl, rfl⟩
  go_wp2_with fail
  go_ret
  exact ⟨rfl, rfl⟩

/- Contract: slices.Clone of ints. -/

theorem info_int : (Try.prog.info? 3).map (fun i => (i.zero, i.size, i.bytes)) = some (some (.int .i64 0), 1, 8) := by kernel_rfl

theorem ints_one (xs : List Int) : ∀ u ∈ xs.map (Value.int .i64), u.oneCell' = true := ints_oneCell _ _

/-- A value that the call owns, as a slice. -/
theorem own_form {w : World} {base e size n : Nat} {v : Value} {xs : List Value} (h : w.ownsRow base e size v n xs) : ∃ A c, v = .slice A n c ∧ n ≤ c ∧ c ≤ 9223372036854775807 ∧ (A = none → n = 0 ∧ c = 0) := by
  rcases h.2 with ⟨rfl, rfl⟩ | ⟨g, cap, cur, rfl, _, _, h1, h2, _⟩
  · exact ⟨none, 0, rfl, by omega, by omega, fun _ => ⟨rfl, rfl⟩⟩
  · exact ⟨_, cap, rfl, h1, by unfold maxLen at h2; omega, fun h => by cases h⟩

set_option maxHeartbeats 400000 in
theorem clone_any (A : Option Addr) (n cap : Nat) (xs : List Int) (w : World) (hl : xs.length = n) (hm : n ≤ 1000000000) (h : Ints w A xs) :
    Calls Try.prog 54 #[.slice A n cap] w fun e w' => ∃ A' c, e = .returned (.slice A' n c) ∧ w'.ownsRow w.heap.size 3 1 (.slice A' n c) n (xs.map (Value.int .i64)) ∧ Below w.heap.size w w' := by
  have qT : ∀ (w : World) (a : Option Addr) (n c n' c' : Nat), (binOp .eql 23 (.slice a n c) (.slice none n' c')).run Try.prog w = .ok (.bool a.isNone) w := fun w a n c n' c' => Lib.run_eql_slice_nil w _ _ a n c n' c' Try.underlying23
  obtain ⟨i0, hi, hz0, hz1, hz2⟩ := info_parts info_int
  rcases A with _ | ad
  · have h0 : xs = [] := by
      cases xs with
      | nil => rfl
      | cons x l => obtain ⟨ad, e, _⟩ := h 0 (.int .i64 x) rfl; cases e
    subst h0
    obtain rfl : n = 0 := by simpa using hl.symm
    clear h hl
    go_enter Try.func54, Try.ntmps54
    go_wp2
    go_ret
    exact ⟨none, 0, rfl, World.ownsRow_nil _ _ _ _, Below.refl _ _⟩
  · have HL := Lib.hid hl
    have HC := Lib.hid (At.some2 h)
    clear hl h
    go_enter Try.func54, Try.ntmps54
    go_wp2_with (at_builtin; refine wpList_append_own _ rfl _ _ 23 rfl w.heap.size 3 i0 (.int .i64 0) 1 8 Try.underlying23 hi hz0 hz1 hz2 rfl (by decide) _ 0 [] rfl (World.ownsRow_made w #[] 0 (Nat.le_refl _) (by decide) rfl) ad n cap (xs.map (Value.int .i64)) rfl ?c1 ?c2 ?c3 ?c4 ?c5 ?c6 ?_)
    case c1 => simpa using HL.out
    case c2 => exact At.new HC.out
    case c3 => exact ints_one xs
    case c4 => unfold maxLen; omega
    case c5 => omega
    case c6 => go_size
    intro v' w1 hown hgrow _
    obtain ⟨A', c, rfl, _⟩ := own_form hown
    go_wp2
    go_ret
    refine ⟨A', c, by simp, by simpa using hown, ?_⟩
    exact (((Below.refl _ _).alloc (Nat.le_refl _) _)).grown hgrow (by go_size) (by intro k hk; simp [Value.ownBlock] at hk; omega)

theorem Ints.take {w : World} {A : Option Addr} {xs : List Int} (h : Ints w A xs) (k : Nat) : Ints w A (xs.take k) := by
  intro i v hv
  refine h i v ?_
  rw [List.map_take] at hv
  rw [List.getElem?_take] at hv
  split at hv
  · exact hv
  · cases hv

/- Appending one element to a slice that the call owns, as one law for every element type. -/

/-- A slice type of the program: its element's type, zero value, cells and bytes. -/
structure STy (T e : TypeId) (z : Value) (size bytes : Nat) : Prop where
  ht : Try.prog.underlying T = some (.slice e)
  inf : (Try.prog.info? e).map (fun i => (i.zero, i.size, i.bytes)) = some (some z, size, bytes)
  hzs : z.cells.size = size
  hsz : 0 < size
  hby : bytes ≤ 100

theorem sty_int : STy 23 3 (.int .i64 0) 1 8 := ⟨Try.underlying23, info_int, rfl, by decide, by decide⟩

/-- What is owned stays owned while older or other blocks turn, and under a smaller base. -/
theorem own_mono {w : World} {base base' e size n : Nat} {v : Value} {xs : List Value} (h : w.ownsRow base e size v n xs) (hb : base' ≤ base) : w.ownsRow base' e size v n xs := by
  obtain ⟨h1, h2⟩ := h
  refine ⟨h1, ?_⟩
  rcases h2 with h2 | ⟨g, cap, cur, hv, a1, a3⟩
  · exact .inl h2
  · exact .inr ⟨g, cap, cur, hv, by omega, a3⟩
theorem own_below {w w' : World} {base e size n : Nat} {v : Value} {xs : List Value} (h : w.ownsRow base e size v n xs) (hb : Below w.heap.size w w') : w'.ownsRow base e size v n xs := by
  obtain ⟨h1, h2⟩ := h
  refine ⟨h1, ?_⟩
  rcases h2 with h2 | ⟨g, cap, cur, hv, a1, a2, a3⟩
  · exact .inl h2
  · exact .inr ⟨g, cap, cur, hv, a1, (hb.block g (lt_of_block a2)).trans a2, a3⟩

theorem own_some {w : World} {base e n c : Nat} {A : Option Addr} {xs : List Value} (h : w.ownsRow base e 1 (.slice A n c) n xs) (hn : 0 < n) : ∃ g, A = some ⟨g, 0, none⟩ ∧ base ≤ g ∧ g < w.heap.size := by
  rcases h.2 with ⟨_, h⟩ | ⟨g, cap, cur, hv, h1, h2, _⟩
  · omega
  · injection hv with e1
    exact ⟨g, e1, h1, lt_of_block h2⟩

theorem wp_app1 {T e : TypeId} {z : Value} {size bytes : Nat} (ty : STy T e z size bytes) {o : Oper} {a : Act} {K : Act → World → Prop} {Q : Exit → Act → World → Prop} {w : World}
    (s x : Operand) (ho : o.op = .call { callee := .builtin .append, args := #[s, x], argTypes := #[T, T] })
    (base : Nat) (A : Option Addr) (n k : Nat) (xs : List Value) (cs : Array Value) (hcs : cs.size = size) (h1 : ∀ u ∈ cs.toList, u.oneCell' = true)
    (hs : a.eval s = .slice A n k) (hown : w.ownsRow base e size (.slice A n k) n xs) (hx : a.eval x = .slice (some ⟨w.heap.size, 0, none⟩) 1 1)
    (hn : n ≤ 1000000) (hb : base ≤ w.heap.size)
    (h : ∀ (A' : Option Addr) (k' : Nat) (w' : World), w'.ownsRow base e size (.slice A' (n + 1) k') (n + 1) (xs ++ cs.toList) → w.grownBy w' (Value.slice A n k).ownBlock → Below base w w' → n + 1 ≤ k' → k' ≤ 9223372036854775807 →
      K (a.put o.dst (.slice A' (n + 1) k')) w') : o.wp Try.prog a (w.alloc (.cells cs e)) K Q := by
  obtain ⟨i0, hi, hz0, hz1, hz2⟩ := info_parts ty.inf
  refine wp_append_own _ s x T ho base e i0 z size bytes ty.ht hi hz0 hz1 hz2 ty.hzs ty.hsz _ n xs hs (hown.alloc _) ⟨w.heap.size, 0, none⟩ 1 1 cs.toList hx (by simpa using hcs) ?_ h1 (by unfold maxLen; omega) ?_ (by go_size) ?_
  · intro j u hu
    have hB := (Blk.new w e cs rfl).at_
    exact (At.some2 hB) j u hu
  · have h2 := ty.hby
    calc (n + 1) * bytes ≤ 1000001 * 100 := Nat.mul_le_mul (by omega) h2
      _ ≤ _ := by decide
  · intro v' w' hown' hg hv
    obtain ⟨A', k', rfl, hk, hk', _⟩ := own_form hown'
    have hg' : w.grownBy w' (Value.slice A n k).ownBlock :=
      ⟨hg.os, hg.tape, hg.output, Nat.le_trans (by simp) hg.size, fun b hb hne => (hg.block b (Nat.lt_of_lt_of_le hb (by simp)) hne).trans (Below.heap_alloc w _ b hb)⟩
    refine h A' k' w' hown' hg' ?_ hk hk'
    refine ⟨hg'.os, hg'.tape, hg'.output, hg'.size, fun b hb' => hg'.block b (by omega) fun he => ?_⟩
    have := (hown.lt b he.symm).1
    omega

theorem app1 {T e : TypeId} {z : Value} {size bytes : Nat} (ty : STy T e z size bytes) {ops : Array Oper} {rest : List Oper} {o : Oper} {a : Act} {Q : Exit → Act → World → Prop} {w : World}
    (hgd : o.guard = none) (s x : Operand) (ho : o.op = .call { callee := .builtin .append, args := #[s, x], argTypes := #[T, T] })
    (base : Nat) (A : Option Addr) (n k : Nat) (xs : List Value) (cs : Array Value) (hcs : cs.size = size) (h1 : ∀ u ∈ cs.toList, u.oneCell' = true)
    (hs : a.eval s = .slice A n k) (hown : w.ownsRow base e size (.slice A n k) n xs) (hx : a.eval x = .slice (some ⟨w.heap.size, 0, none⟩) 1 1)
    (hn : n ≤ 1000000) (hb : base ≤ w.heap.size)
    (h : ∀ (A' : Option Addr) (k' : Nat) (w' : World), w'.ownsRow base e size (.slice A' (n + 1) k') (n + 1) (xs ++ cs.toList) → w.grownBy w' (Value.slice A n k).ownBlock → Below base w w' → n + 1 ≤ k' → k' ≤ 9223372036854775807 →
      wpList Try.prog ops Q rest (a.put o.dst (.slice A' (n + 1) k')) w') : wpList Try.prog ops Q (o :: rest) a (w.alloc (.cells cs e)) :=
  wpList_plain hgd fun _ hK => wp_app1 ty s x ho base A n k xs cs hcs h1 hs hown hx hn hb fun A' k' w' a1 a2 a3 a4 a5 => hK _ _ (h A' k' w' a1 a2 a3 a4 a5)

/-- The same as one step of a region that draws its order. -/
theorem step_app1 {T e : TypeId} {z : Value} {size bytes : Nat} (ty : STy T e z size bytes) {ops : Array Oper} {o : Oper} {a : Act} {K : Act → World → Prop} {Q : Exit → Act → World → Prop} {E : Prop} {w : World}
    (hgd : o.guard = none) (s x : Operand) (ho : o.op = .call { callee := .builtin .append, args := #[s, x], argTypes := #[T, T] })
    (base : Nat) (A : Option Addr) (n k : Nat) (xs : List Value) (cs : Array Value) (hcs : cs.size = size) (h1 : ∀ u ∈ cs.toList, u.oneCell' = true)
    (hs : a.eval s = .slice A n k) (hown : w.ownsRow base e size (.slice A n k) n xs) (hx : a.eval x = .slice (some ⟨w.heap.size, 0, none⟩) 1 1)
    (hn : n ≤ 1000000) (hb : base ≤ w.heap.size)
    (h : ∀ (A' : Option Addr) (k' : Nat) (w' : World), w'.ownsRow base e size (.slice A' (n + 1) k') (n + 1) (xs ++ cs.toList) → w.grownBy w' (Value.slice A n k).ownBlock → Below base w w' → n + 1 ≤ k' → k' ≤ 9223372036854775807 →
      K (a.put o.dst (.slice A' (n + 1) k')) w') : if Region.wanted o (yielded ops a.tmps) = true then Oper.wp Try.prog o a (w.alloc (.cells cs e)) K Q else E := by
  have hw : Region.wanted o (yielded ops a.tmps) = true := by simp [Region.wanted, hgd]
  rw [if_pos hw]
  exact wp_app1 ty s x ho base A n k xs cs hcs h1 hs hown hx hn hb h

/- More laws of append: one element to a slice without room that need not be owned (always a new row), and many elements to an owned one. -/

theorem run_fresh {T e : TypeId} {z : Value} {size bytes : Nat} (ty : STy T e z size bytes) (rt : TypeId) (w : World) (A : Option Addr) (n : Nat) (olds : List Value) (hlo : olds.length = n * size) (hA : At w A olds) (h0 : A = none → n = 0)
    (a : Addr) (m c : Nat) (news : List Value) (hl : news.length = m * size) (hnews : ∀ j u, news[j]? = some u → w.cell? (a.add j) = some u) (hm : 0 < m) (hn : n + m ≤ 1000000) (hd : n ≠ 0 → ∃ ad, A = some ad) :
    ∃ (k' : Nat) (w' : World), (Builtin.append_ #[T, T] rt #[.slice A n n, .slice (some a) m c]).run Try.prog w = .ok (.slice (some ⟨w.heap.size, 0, none⟩) (n + m) k') w' ∧
      w'.ownsRow w.heap.size e size (.slice (some ⟨w.heap.size, 0, none⟩) (n + m) k') (n + m) (olds ++ news) ∧ Below w.heap.size w w' ∧ n + m ≤ k' ∧ k' ≤ 9223372036854775807 := by
  obtain ⟨i, hi, hz0, hz1, hz2⟩ := info_parts ty.inf
  subst hz1
  subst hz2
  have hlen : (olds ++ news).length = (n + m) * i.size := by rw [List.length_append, hlo, hl, Nat.add_mul]
  have hby := ty.hby
  have hbytes : (n + m) * i.bytes ≤ 140737488355328 := by
    calc (n + m) * i.bytes ≤ 1000000 * 100 := Nat.mul_le_mul hn hby
      _ ≤ _ := by decide
  have grown : ∀ (old : Nat), old < n + m →
      (w.drew.alloc (.cells (olds.toArray ++ news.toArray ++ Builtin.zeroCells z.cells (grownCap w (n + m) old e - (n + m))) e)).ownsRow w.heap.size e i.size
        (.slice (some ⟨w.heap.size, 0, none⟩) (n + m) (grownCap w (n + m) old e)) (n + m) (olds ++ news) ∧
      Below w.heap.size w (w.drew.alloc (.cells (olds.toArray ++ news.toArray ++ Builtin.zeroCells z.cells (grownCap w (n + m) old e - (n + m))) e)) ∧ n + m ≤ grownCap w (n + m) old e ∧ grownCap w (n + m) old e ≤ 9223372036854775807 := by
    intro old ho
    have hge := grownCap_ge w (n + m) old e
    have hcm : grownCap w (n + m) old e ≤ maxLen := grownCap_le_maxLen w (n + m) old e (by unfold maxLen; omega)
    refine ⟨⟨hlen, .inr ⟨w.heap.size, _, _, rfl, Nat.le_refl _, heap_alloc_new w.drew _, hge, hcm, ?_, ?_⟩⟩, ((Below.refl _ _).drew).alloc (by simp) _, hge, by unfold maxLen at hcm; omega⟩
    · simp only [Array.size_append, List.size_toArray, size_zeroCells, ty.hzs, hlo, hl, ← Nat.add_mul]
      rw [Nat.add_sub_cancel' hge]
    · simp only [Array.toList_append, List.append_assoc]
      rw [← List.append_assoc, ← hlen]
      exact List.take_left
  cases A with
  | none =>
    obtain rfl : n = 0 := h0 rfl
    have hx : olds = [] := List.eq_nil_of_length_eq_zero (by simpa using hlo)
    subst hx
    have hr := run_append_nil (P := Try.prog) w T rt e i z ty.ht hi hz0 a m c news hl hnews hm (by omega) (by have hb := hbytes; simp only [Nat.zero_add] at hb; omega)
    have hgr := grown 0 (by omega)
    simp only [Nat.zero_add, List.nil_append, Array.empty_append] at hgr ⊢
    exact ⟨_, _, hr, hgr⟩
  | some b =>
    have hr := run_append_grow (P := Try.prog) w T rt e i z ty.ht hi hz0 b n n olds hlo (At.some2 hA) a m c news hl hnews (by omega) (by omega) (growslice_fits (by omega) hbytes)
    exact ⟨_, _, hr, grown n (by omega)⟩

theorem wp_fresh {T e : TypeId} {z : Value} {size bytes : Nat} (ty : STy T e z size bytes) {o : Oper} {a : Act} {K : Act → World → Prop} {Q : Exit → Act → World → Prop} {w : World}
    (s x : Operand) (ho : o.op = .call { callee := .builtin .append, args := #[s, x], argTypes := #[T, T] })
    (A : Option Addr) (n : Nat) (olds : List Value) (hlo : olds.length = n * size) (hA : At w A olds) (h0 : A = none → n = 0) (hd : n ≠ 0 → ∃ ad, A = some ad)
    (ad : Addr) (m c : Nat) (news : List Value) (hl : news.length = m * size) (hnews : ∀ j u, news[j]? = some u → w.cell? (ad.add j) = some u)
    (hs : a.eval s = .slice A n n) (hx : a.eval x = .slice (some ad) m c) (hm : 0 < m) (hn : n + m ≤ 1000000)
    (h : ∀ (k' : Nat) (w' : World), w'.ownsRow w.heap.size e size (.slice (some ⟨w.heap.size, 0, none⟩) (n + m) k') (n + m) (olds ++ news) → Below w.heap.size w w' → n + m ≤ k' → k' ≤ 9223372036854775807 →
      K (a.put o.dst (.slice (some ⟨w.heap.size, 0, none⟩) (n + m) k')) w') : o.wp Try.prog a w K Q := by
  obtain ⟨k', w', hr, h2, h3, h4, h5⟩ := run_fresh ty o.type w A n olds hlo hA h0 ad m c news hl hnews hm hn hd
  unfold Oper.wp execOp
  simp only [ho, resolve, invoke, builtin, Sem.run_bind, Sem.run_pure, Result.andThen_ok, List.map_toArray, List.map_cons, List.map_nil, hs, hx, hr]
  exact h k' w' h2 h3 h4 h5

/-- Many elements to an owned slice. -/
theorem wp_appN {T e : TypeId} {z : Value} {size bytes : Nat} (ty : STy T e z size bytes) {o : Oper} {a : Act} {K : Act → World → Prop} {Q : Exit → Act → World → Prop} {w : World}
    (s x : Operand) (ho : o.op = .call { callee := .builtin .append, args := #[s, x], argTypes := #[T, T] })
    (base : Nat) (A : Option Addr) (n k : Nat) (xs : List Value)
    (hs : a.eval s = .slice A n k) (hown : w.ownsRow base e size (.slice A n k) n xs)
    (ad : Addr) (m c : Nat) (news : List Value) (hl : news.length = m * size) (hnews : ∀ j u, news[j]? = some u → w.cell? (ad.add j) = some u) (h1 : ∀ u ∈ news, u.oneCell' = true) (hx : a.eval x = .slice (some ad) m c)
    (hn : n + m ≤ 1000000) (hb : base ≤ w.heap.size)
    (h : ∀ (A' : Option Addr) (k' : Nat) (w' : World), w'.ownsRow base e size (.slice A' (n + m) k') (n + m) (xs ++ news) → w.grownBy w' (Value.slice A n k).ownBlock → Below base w w' → n + m ≤ k' → k' ≤ 9223372036854775807 →
      K (a.put o.dst (.slice A' (n + m) k')) w') : o.wp Try.prog a w K Q := by
  obtain ⟨i0, hi, hz0, hz1, hz2⟩ := info_parts ty.inf
  refine wp_append_own _ s x T ho base e i0 z size bytes ty.ht hi hz0 hz1 hz2 ty.hzs ty.hsz _ n xs hs hown ad m c news hx hl hnews h1 (by unfold maxLen; omega) ?_ hb ?_
  · have h2 := ty.hby
    calc (n + m) * bytes ≤ 1000000 * 100 := Nat.mul_le_mul (by omega) h2
      _ ≤ _ := by decide
  · intro v' w' hown' hg hv
    obtain ⟨A', k', rfl, hk, hk', _⟩ := own_form hown'
    refine h A' k' w' hown' hg ?_ hk hk'
    refine ⟨hg.os, hg.tape, hg.output, hg.size, fun b hb' => hg.block b (by omega) fun he => ?_⟩
    have := (hown.lt b he.symm).1
    omega

/- What a slice of slices of ints holds. -/

/-- One of the inner slices: it holds ints, and lies where the row that holds the slices cannot. -/
def Row1 (w : World) (b : Nat) (v : Value) (os : List Int) : Prop :=
  ∃ A c, v = .slice A os.length c ∧ os.length ≤ c ∧ c ≤ 9223372036854775807 ∧ Ints w A os ∧ ∀ ad, A = some ad → ad.block < b ∨ ∃ cs f, w.heap[ad.block]? = some (.cells cs 3 f)
def Rows (w : World) (b : Nat) (vs : List Value) (L : List (List Int)) : Prop :=
  vs.length = L.length ∧ ∀ (j : Nat) (os : List Int), L[j]? = some os → ∃ v, vs[j]? = some v ∧ Row1 w b v os

theorem Row1.below {w w' : World} {b : Nat} {v : Value} {os : List Int} (h : Row1 w b v os) (hb : Below w.heap.size w w') : Row1 w' b v os := by
  obtain ⟨A, c, hv, h1, h2, h3, h4⟩ := h
  refine ⟨A, c, hv, h1, h2, h3.below hb, fun ad hA => ?_⟩
  rcases h4 ad hA with h | ⟨cs, f, h⟩
  · exact .inl h
  · exact .inr ⟨cs, f, (hb.block _ (lt_of_block h)).trans h⟩
theorem Row1.mono {w : World} {b b' : Nat} {v : Value} {os : List Int} (h : Row1 w b v os) (hb : b ≤ b') : Row1 w b' v os := by
  obtain ⟨A, c, hv, h1, h2, h3, h4⟩ := h
  refine ⟨A, c, hv, h1, h2, h3, fun ad hA => ?_⟩
  rcases h4 ad hA with h | h
  · exact .inl (by omega)
  · exact .inr h
theorem Row1.of_own {w : World} {base n c : Nat} {A : Option Addr} {os : List Int} (h : w.ownsRow base 3 1 (.slice A n c) n (os.map (Value.int .i64))) (b : Nat) : Row1 w b (.slice A n c) os := by
  obtain ⟨A', c', he, h1, h2, _⟩ := own_form h
  injection he with e1 e2 e3
  subst e1; subst e3
  have hl : os.length = n := by have := h.1; simpa using this
  subst hl
  refine ⟨A, c, rfl, h1, h2, At.of_own h, fun ad hA => .inr ?_⟩
  rcases h.2 with ⟨h0, _⟩ | ⟨g, cap, cur, hv, _, hg, _⟩
  · rw [hA] at h0; cases h0
  · rw [hA] at hv
    injection hv with e1 _ _
    injection e1 with e1
    subst e1
    exact ⟨cur, _, hg⟩
theorem Row1.grown {w w' : World} {b base n : Nat} {v v' : Value} {os : List Int} {xs : List Value} (h : Row1 w b v os) (hown : w.ownsRow base 23 1 v' n xs) (hb : b ≤ base) (hg : w.grownBy w' v'.ownBlock) : Row1 w' b v os := by
  obtain ⟨A, c, hv, h1, h2, h3, h4⟩ := h
  have key : ∀ ad, A = some ad → (ad.block < b ∨ ∃ cs f, w.heap[ad.block]? = some (.cells cs 3 f)) → some ad.block ≠ v'.ownBlock := by
    intro ad hA hc he
    rcases hown.2 with ⟨h0, _⟩ | ⟨g, cap, cur, hv', hbg, hgg, _⟩
    · subst h0; cases he
    · subst hv'
      injection he with he
      rcases hc with hc | ⟨cs, f, hc⟩
      · have : ad.block = g := he
        omega
      · have : ad.block = g := he
        rw [this, hgg] at hc
        injection hc with hc
        injection hc with _ hc _
        exact absurd hc (by decide)
  refine ⟨A, c, hv, h1, h2, ?_, fun ad hA => ?_⟩
  · intro i u hu
    obtain ⟨ad, hA, hcell⟩ := h3 i u hu
    refine ⟨ad, hA, hg.cell hcell ?_⟩
    rw [add_block]
    exact key ad hA (h4 ad hA)
  · rcases h4 ad hA with h | ⟨cs, f, h⟩
    · exact .inl h
    · exact .inr ⟨cs, f, (hg.block _ (lt_of_block h) (key ad hA (h4 ad hA))).trans h⟩
theorem Row1.one {w : World} {b : Nat} {v : Value} {os : List Int} (h : Row1 w b v os) : v.oneCell' = true := by
  obtain ⟨A, c, rfl, _⟩ := h; rfl

section
variable {w w' : World} {b b' : Nat} {vs vs' : List Value} {L L' : List (List Int)}
theorem Rows.nil : Rows w b [] [] := ⟨rfl, fun j os h => by simp at h⟩
theorem Rows.below (h : Rows w b vs L) (hb : Below w.heap.size w w') : Rows w' b vs L :=
  ⟨h.1, fun j os hj => by obtain ⟨v, hv, hr⟩ := h.2 j os hj; exact ⟨v, hv, hr.below hb⟩⟩
theorem Rows.mono (h : Rows w b vs L) (hb : b ≤ b') : Rows w b' vs L :=
  ⟨h.1, fun j os hj => by obtain ⟨v, hv, hr⟩ := h.2 j os hj; exact ⟨v, hv, hr.mono hb⟩⟩
theorem Rows.grown {base n : Nat} {v' : Value} {xs : List Value} (h : Rows w b vs L) (hown : w.ownsRow base 23 1 v' n xs) (hb : b ≤ base) (hg : w.grownBy w' v'.ownBlock) : Rows w' b vs L :=
  ⟨h.1, fun j os hj => by obtain ⟨v, hv, hr⟩ := h.2 j os hj; exact ⟨v, hv, hr.grown hown hb hg⟩⟩
theorem Rows.append (h : Rows w b vs L) (h' : Rows w b vs' L') : Rows w b (vs ++ vs') (L ++ L') := by
  refine ⟨by rw [List.length_append, List.length_append, h.1, h'.1], fun j os hj => ?_⟩
  by_cases hlt : j < L.length
  · rw [List.getElem?_append_left hlt] at hj
    rw [List.getElem?_append_left (by rw [h.1]; exact hlt)]
    exact h.2 j os hj
  · rw [List.getElem?_append_right (by omega)] at hj
    rw [List.getElem?_append_right (by rw [h.1]; omega), h.1]
    exact h'.2 _ os hj
theorem Rows.one_ {v : Value} {os : List Int} (h : Row1 w b v os) : Rows w b [v] [os] :=
  ⟨rfl, fun j x hj => by cases j with
    | zero => simp at hj; subst hj; exact ⟨v, rfl, h⟩
    | succ j => simp at hj⟩
theorem Rows.one (h : Rows w b vs L) : ∀ u ∈ vs, u.oneCell' = true := by
  intro u hu
  obtain ⟨j, hj⟩ := List.getElem?_of_mem hu
  have hlt : j < L.length := by have := (List.getElem?_eq_some_iff.1 hj).1; have := h.1; omega
  obtain ⟨v, hv, hr⟩ := h.2 j _ (List.getElem?_eq_getElem hlt)
  rw [hj] at hv
  injection hv with hv
  subst hv
  exact hr.one
end

theorem info_ints : (Try.prog.info? 23).map (fun i => (i.zero, i.size, i.bytes)) = some (some (.slice none 0 0), 1, 24) := by kernel_rfl
theorem sty_intss : STy 22 23 (.slice none 0 0) 1 24 := ⟨Try.underlying22, info_ints, rfl, by decide, by decide⟩

/- The laws of append of the text before, as laws of a walk. -/

theorem freshN {T e : TypeId} {z : Value} {size bytes : Nat} (ty : STy T e z size bytes) {ops : Array Oper} {rest : List Oper} {o : Oper} {a : Act} {Q : Exit → Act → World → Prop} {w : World}
    (hgd : o.guard = none) (s x : Operand) (ho : o.op = .call { callee := .builtin .append, args := #[s, x], argTypes := #[T, T] })
    (A : Option Addr) (n : Nat) (olds : List Value) (hlo : olds.length = n * size) (hA : At w A olds) (h0 : A = none → n = 0) (hd : n ≠ 0 → ∃ ad, A = some ad)
    (ad : Addr) (m c : Nat) (news : List Value) (hl : news.length = m * size) (hnews : ∀ j u, news[j]? = some u → w.cell? (ad.add j) = some u)
    (hs : a.eval s = .slice A n n) (hx : a.eval x = .slice (some ad) m c) (hm : 0 < m) (hn : n + m ≤ 1000000)
    (h : ∀ (k' : Nat) (w' : World), w'.ownsRow w.heap.size e size (.slice (some ⟨w.heap.size, 0, none⟩) (n + m) k') (n + m) (olds ++ news) → Below w.heap.size w w' → n + m ≤ k' → k' ≤ 9223372036854775807 →
      wpList Try.prog ops Q rest (a.put o.dst (.slice (some ⟨w.heap.size, 0, none⟩) (n + m) k')) w') : wpList Try.prog ops Q (o :: rest) a w :=
  wpList_plain hgd fun _ hK => wp_fresh ty s x ho A n olds hlo hA h0 hd ad m c news hl hnews hs hx hm hn fun k' w' a1 a2 a3 a4 => hK _ _ (h k' w' a1 a2 a3 a4)

/-- One element, whose block's number is spelled in some way. -/
theorem app1h {T e : TypeId} {z : Value} {size bytes : Nat} (ty : STy T e z size bytes) {ops : Array Oper} {rest : List Oper} {o : Oper} {a : Act} {Q : Exit → Act → World → Prop} {w : World}
    (hgd : o.guard = none) (s x : Operand) (ho : o.op = .call { callee := .builtin .append, args := #[s, x], argTypes := #[T, T] })
    (base : Nat) (A : Option Addr) (n k : Nat) (xs : List Value) (cs : Array Value) (hcs : cs.size = size) (h1 : ∀ u ∈ cs.toList, u.oneCell' = true)
    (hs : a.eval s = .slice A n k) (hown : w.ownsRow base e size (.slice A n k) n xs) (g : Nat) (hx : a.eval x = .slice (some ⟨g, 0, none⟩) 1 1) (hg : g = w.heap.size)
    (hn : n ≤ 1000000) (hb : base ≤ w.heap.size)
    (h : ∀ (A' : Option Addr) (k' : Nat) (w' : World), w'.ownsRow base e size (.slice A' (n + 1) k') (n + 1) (xs ++ cs.toList) → w.grownBy w' (Value.slice A n k).ownBlock → Below base w w' → n + 1 ≤ k' → k' ≤ 9223372036854775807 →
      wpList Try.prog ops Q rest (a.put o.dst (.slice A' (n + 1) k')) w') : wpList Try.prog ops Q (o :: rest) a (w.alloc (.cells cs e)) := by
  subst hg
  exact app1 ty hgd s x ho base A n k xs cs hcs h1 hs hown hx hn hb h
/-- Any elements, also none of nil, to an owned slice. -/
theorem appN {T e : TypeId} {z : Value} {size bytes : Nat} (ty : STy T e z size bytes) {ops : Array Oper} {rest : List Oper} {o : Oper} {a : Act} {Q : Exit → Act → World → Prop} {w : World}
    (hgd : o.guard = none) (s x : Operand) (ho : o.op = .call { callee := .builtin .append, args := #[s, x], argTypes := #[T, T] })
    (base : Nat) (A : Option Addr) (n k : Nat) (xs : List Value)
    (hs : a.eval s = .slice A n k) (hown : w.ownsRow base e size (.slice A n k) n xs)
    (B : Option Addr) (m c : Nat) (news : List Value) (hB : B = none → m = 0 ∧ c = 0) (hl : news.length = m * size) (hnews : At w B news) (h1 : ∀ u ∈ news, u.oneCell' = true) (hx : a.eval x = .slice B m c)
    (hn : n + m ≤ 1000000) (hb : base ≤ w.heap.size)
    (h : ∀ (A' : Option Addr) (k' : Nat) (w' : World), w'.ownsRow base e size (.slice A' (n + m) k') (n + m) (xs ++ news) → w.grownBy w' (Value.slice A n k).ownBlock → Below base w w' → n + m ≤ k' → k' ≤ 9223372036854775807 →
      wpList Try.prog ops Q rest (a.put o.dst (.slice A' (n + m) k')) w') : wpList Try.prog ops Q (o :: rest) a w := by
  cases B with
  | none =>
    obtain ⟨rfl, rfl⟩ := hB rfl
    obtain rfl : news = [] := List.eq_nil_of_length_eq_zero (by simpa using hl)
    obtain ⟨i0, hi, _, hz1, _⟩ := info_parts ty.inf
    subst hz1
    refine wpList_append_own_none hgd s x T ho base e i0 i0.size ty.ht hi (.slice A n k) n xs hs (by simpa using hown) hx ?_
    obtain ⟨_, _, he, h3, h4, _⟩ := own_form hown
    injection he with _ _ he
    subst he
    exact h A k w (by simpa using hown) ⟨rfl, rfl, rfl, Nat.le_refl _, fun _ _ _ => rfl⟩ (Below.refl _ _) (by omega) h4
  | some ad => exact wpList_plain hgd fun _ hK => wp_appN ty s x ho base A n k xs hs hown ad m c news hl (At.some2 hnews) h1 hx hn hb fun A' k' w' a1 a2 a3 a4 a5 => hK _ _ (h A' k' w' a1 a2 a3 a4 a5)

/- Values in memory; contracts of goods, worth and own of package split. -/

/-- The slice of slices at A reads as V. -/
def Mat (w : World) (A : Option Addr) (V : List (List Int)) : Prop :=
  ∀ (j : Nat) (r : List Int), V[j]? = some r → ∃ ad A' c, A = some ad ∧ w.cell? (ad.add j) = some (.slice A' r.length c) ∧ r.length ≤ c ∧ c ≤ 9223372036854775807 ∧ Ints w A' r
theorem Mat.keep {w w' : World} {A : Option Addr} {V : List (List Int)} (h : Mat w A V) (hk : ∀ p v, w.cell? p = some v → w'.cell? p = some v) : Mat w' A V := fun j r hj => by
  obtain ⟨ad, A', c, h1, h2, h3, h4, h5⟩ := h j r hj
  exact ⟨ad, A', c, h1, hk _ _ h2, h3, h4, At.keep h5 hk⟩
theorem Mat.below {w w' : World} {A : Option Addr} {V : List (List Int)} (h : Mat w A V) (hb : Below w.heap.size w w') : Mat w' A V :=
  h.keep fun _ _ hc => (hb.cell (lt_of_cell hc)).trans hc
theorem Mat.nil {w : World} {A : Option Addr} : Mat w A [] := fun j r h => by simp at h
theorem Mat.some_ {w : World} {A : Option Addr} {V : List (List Int)} (h : Mat w A V) (hn : 0 < V.length) : ∃ ad, A = some ad ∧ ad.block < w.heap.size ∧ ∀ (j : Nat) (r : List Int), V[j]? = some r → ∃ A' c, w.cell? (ad.add j) = some (.slice A' r.length c) ∧ r.length ≤ c ∧ c ≤ 9223372036854775807 ∧ Ints w A' r := by
  obtain ⟨ad, A', c, h1, h2, _⟩ := h 0 _ (List.getElem?_eq_getElem hn)
  refine ⟨ad, h1, by have := lt_of_cell h2; rwa [add_block] at this, fun j r hj => ?_⟩
  obtain ⟨ad', A', c, h1', h2, h3⟩ := h j r hj
  rw [h1] at h1'
  injection h1' with h1'
  subst h1'
  exact ⟨A', c, h2, h3⟩
/-- A list of rows that a call owns. -/
theorem Mat.of_rows {w : World} {b : Nat} {A : Option Addr} {vs : List Value} {V : List (List Int)} (hat : At w A vs) (h : Rows w b vs V) : Mat w A V := fun j r hj => by
  obtain ⟨v, hv, A', c, rfl, h1, h2, h3, _⟩ := h.2 j r hj
  obtain ⟨ad, hA, hc⟩ := hat j _ hv
  exact ⟨ad, A', c, hA, hc, h1, h2, h3⟩

theorem goods_any (A : Option Addr) (n cap m : Nat) (V : List (List Int)) (w : World) (hl : V.length = n) (hn : 1 ≤ n) (hn2 : n ≤ 1000) (hm : m = (rowV V 0).length) (_hm2 : m ≤ 1000) (h : Mat w A V) :
    Calls Try.prog 88 #[.slice A n cap] w fun e w' => e = .returned (.int .i64 m) ∧ w = w' := by
  obtain ⟨ad, rfl, _, hc⟩ := h.some_ (by omega)
  obtain ⟨A', c, h1, hrest⟩ := hc 0 _ (List.getElem?_eq_getElem (by omega))
  clear hrest
  have e : (V[0]'(by omega)).length = m := by rw [hm, rowV_get (List.getElem?_eq_getElem (by omega))]
  rw [e] at h1
  have c0 : w.cell? ad = some (.slice A' m c) := h1
  have l1 : (0 : Int) < (n : Int) := by omega
  clear hl hm h hc h1 e
  go_enter Try.func88, Try.ntmps88
  go_wp2_with fail
  go_ret
  exact ⟨rfl, rfl⟩

set_option maxHeartbeats 800000 in
theorem worth_any (A : Option Addr) (n cap : Nat) (D : Option Addr) (m capd i : Nat) (j : Int) (V : List (List Int)) (d : List Int) (w : World) (hl : V.length = n) (hn : n ≤ 1000) (hi : i < n) (hld : d.length = m) (hm : m ≤ 1000)
    (hr : (rowV V i).length = m) (hrb : ∀ x ∈ rowV V i, 0 ≤ x ∧ x ≤ 100) (hV : Mat w A V) (hD : Ints w D d) :
    Calls Try.prog 91 #[.slice A n cap, .slice D m capd, .int .i64 i, .int .i64 j] w fun e w' => e = .returned (.int .i64 (wor V d i j)) ∧ w = w' := by
  obtain ⟨ad, rfl, _, hc⟩ := hV.some_ (by omega)
  obtain ⟨A', c, h1, h2, h3, h4⟩ := hc i _ (List.getElem?_eq_getElem (by omega))
  have er : rowV V i = V[i]'(by omega) := rowV_get (List.getElem?_eq_getElem (by omega))
  rw [← er] at h1 h2 h4
  rw [hr] at h1 h2
  have hID := fun (hp : 0 < d.length) => hD.some_ hp
  have hIR := fun (hp : 0 < (rowV V i).length) => h4.some_ hp
  have hw : wor V d i j = worTo (rowV V i) d j m := by unfold wor; rw [hld]
  have H := Lib.hid (And.intro hld (And.intro hr (And.intro hrb (And.intro hID (And.intro hIR hw)))))
  have l1 : (i : Int) < (n : Int) := by omega
  have l2 : (0 : Int) ≤ (i : Int) := by omega
  clear hl hld hr hrb hV hD hc h4 er hID hIR hw
  go_enter Try.func91, Try.ntmps91
  go_wp2_with fail
  go_loop [9, 14] (fun s g => ∃ k : Nat, k ≤ m ∧ g = .int .i64 k ∧ s = .int .i64 (worTo (rowV V i) d j k)) (fun _ g => m - (intOf g).toNat)
  case atStart => exact ⟨0, Nat.zero_le _, rfl, rfl⟩
  case round =>
    obtain ⟨k, hk, rfl, rfl⟩ := hrel
    by_cases hlt : k < m
    · obtain ⟨hld, hr, hrb, hID, hIR, hw⟩ := H.out
      obtain ⟨bd, rfl, _, hcd⟩ := hID (by omega)
      obtain ⟨br, rfl, _, hcr⟩ := hIR (by omega)
      obtain ⟨y, hy⟩ : ∃ y, d[k]? = some y := ⟨_, List.getElem?_eq_getElem (by omega)⟩
      obtain ⟨x, hx⟩ : ∃ x, (rowV V i)[k]? = some x := ⟨_, List.getElem?_eq_getElem (by omega)⟩
      have c1 := hcd k y hy
      have c2 := hcr k x hx
      have hb := worTo_bd hrb d j k
      have hxb := hrb x (List.mem_of_getElem? hx)
      have hs : worTo (rowV V i) d j (k + 1) = worTo (rowV V i) d j k + if y = j then x else 0 := by
        rw [worTo, List.getD_eq_getElem?_getD, List.getD_eq_getElem?_getD, hy, hx]; rfl
      obtain ⟨s, hse⟩ : ∃ s, s = worTo (rowV V i) d j k := ⟨_, rfl⟩
      rw [← hse] at hb hs ⊢
      have HS := Lib.hid hs
      clear hld hr hrb hID hIR hw hcd hcr hy hx hs hse
      by_cases he : y = j
      · have hb2 : (y == j) = true := by simp [he]
        have HN : Hid (worTo (rowV V i) d j (k + 1) = s + x) := Lib.hid (by rw [HS.out, if_pos he])
        clear he
        go_wp2_with fail
        go_round
        case rel => exact ⟨k + 1, by omega, by go_num, by rw [HN.out]⟩
        case measure => simp [intOf]; omega
      · have hb2 : (y == j) = false := by simp [he]
        have HN : Hid (worTo (rowV V i) d j (k + 1) = s) := Lib.hid (by rw [HS.out, if_neg he]; omega)
        clear he
        go_wp2_with fail
        go_round
        case rel => exact ⟨k + 1, by omega, by go_num, by rw [HN.out]⟩
        case measure => simp [intOf]; omega
    · obtain rfl : m = k := by omega
      have HW := Lib.hid H.out.2.2.2.2.2
      go_wp2_with fail
      go_ret
      exact ⟨ret_int HW.out.symm, rfl⟩

set_option maxHeartbeats 800000 in
theorem own_any (A : Option Addr) (n cap : Nat) (D : Option Addr) (m capd : Nat) (V : List (List Int)) (d : List Int) (w : World) (hl : V.length = n) (hn : n ≤ 1000) (hld : d.length = m) (hm : m ≤ 1000)
    (hr : ∀ i, i < n → (rowV V i).length = m ∧ ∀ x ∈ rowV V i, 0 ≤ x ∧ x ≤ 100) (hV : Mat w A V) (hD : Ints w D d) :
    Calls Try.prog 50 #[.slice A n cap, .slice D m capd] w fun e w' => ∃ A' c, e = .returned (.slice A' n c) ∧ w'.ownsRow w.heap.size 3 1 (.slice A' n c) n ((ownV V d n).map (Value.int .i64)) ∧ Below w.heap.size w w' := by
  have H := Lib.hid (And.intro hl (And.intro hld (And.intro hr (And.intro hV hD))))
  clear hl hld hr hV hD
  go_enter Try.func50, Try.ntmps50
  go_wp2_with fail
  go_loopw [5, 9] (fun ov iv wr => ∃ (k : Nat) (B : Option Addr) (bc : Nat), k ≤ n ∧ iv = .int .i64 k ∧ ov = .slice B k bc ∧ wr.ownsRow w.heap.size 3 1 (.slice B k bc) k ((ownV V d k).map (Value.int .i64)) ∧ Below w.heap.size w wr) (fun _ iv _ => n - (intOf iv).toNat)
  case atStart => exact ⟨0, none, 0, Nat.zero_le _, rfl, rfl, World.ownsRow_nil _ _ _ _, Below.refl _ _⟩
  case round =>
    obtain ⟨k, B, bc, hk, rfl, rfl, hown, hbl⟩ := hrel
    have HR := Lib.hid (And.intro hown hbl)
    have hws := hbl.size
    clear hown hbl
    by_cases hlt : k < n
    · have HNEW : Hid ((ownV V d (k + 1)).map (Value.int .i64) = (ownV V d k).map (Value.int .i64) ++ [.int .i64 (wor V d k (k : Int))]) := Lib.hid (by rw [ownV_succ]; simp)
      go_wp2_with fail
      refine (worth_any A n cap D m capd k (k : Int) V d _ H.out.1 hn hlt H.out.2.1 hm (H.out.2.2.1 k hlt).1 (H.out.2.2.1 k hlt).2 (H.out.2.2.2.1.below HR.out.2) (H.out.2.2.2.2.below HR.out.2)).mono ?_
      rintro e w' ⟨rfl, rfl⟩
      generalize wor V d k (k : Int) = x at HNEW ⊢
      go_wp2_with (at_builtin; refine app1 sty_int rfl _ _ rfl w.heap.size B k bc _ #[.int .i64 x] rfl (by simp [Value.oneCell']) rfl HR.out.1 rfl (by omega) (by omega) ?_)
      intro A4 k4 w4 hown4 _ hbl4 hk41 hk42
      rw [← HNEW.out] at hown4
      have HR4 := Lib.hid (And.intro hown4 (HR.out.2.trans hbl4))
      clear hown4 hbl4
      go_wp2_with fail
      go_roundw
      case rel => exact ⟨k + 1, A4, k4, by omega, by go_num, rfl, HR4.out.1, HR4.out.2⟩
      case measure => simp [intOf]; omega
    · obtain rfl : n = k := by omega
      go_wp2_with fail
      go_ret
      exact ⟨B, bc, rfl, HR.out.1, HR.out.2⟩

/- A slice of slices of ints among a statement's arguments, opened. -/
open Go.ChangeShapes Go.WideShapes Go.ChangeAt Go.RowKit Go.Deep

section
variable {H : Type} {enc : TypeId × Value → H}
theorem open_intssI {W : World} {v : Value} {d : DataW H} {p : List MemPlace} {spare : Nat → Bool} {b : Nat} (h : DataW.Trod enc Try.prog W b spare true 22 v d p)
    (hv : ∃ a len cap, v = .slice a len cap) :
    ∃ A n cap V, v = .slice A n cap ∧ V.length = n ∧ n ≤ cap ∧ cap ≤ 9223372036854775807 ∧ Mat W A V ∧ ∀ r ∈ V, ∀ x ∈ r, -9223372036854775808 ≤ x ∧ x ≤ 9223372036854775807 := by
  obtain ⟨a0, len, cap, rfl⟩ := hv
  obtain ⟨fuel, hf⟩ := h
  rcases open_slice1 Try.underlying22 (by kernel_rfl) hf with ⟨hcs, _⟩ | ⟨a, len', cap', m, n, Vv, D, Pl, hcs, _, hl, hm, hmm, _, hall⟩
  · have e : Value.slice a0 len cap = .slice none 0 0 := by simpa [Value.cells] using hcs
    rw [e]
    exact ⟨none, 0, 0, [], rfl, rfl, by omega, by omega, Mat.nil, by simp⟩
  · have e : Value.slice a0 len cap = .slice (some a) len' cap' := by simpa [Value.cells] using hcs
    rw [e]
    have hlm : len' ≤ m := by rw [hmm]; split <;> omega
    have hint : ∀ i, i < len' → ∃ r : List Int, (∃ A' c, W.cell? (a.add i) = some (.slice A' r.length c) ∧ r.length ≤ c ∧ c ≤ 9223372036854775807 ∧ Ints W A' r) ∧ ∀ x ∈ r, -9223372036854775808 ≤ x ∧ x ≤ 9223372036854775807 := by
      intro i hi
      obtain ⟨hc, ht⟩ := hall i (by omega)
      rcases open_ints Try.underlying23 Try.underlying3 (by kernel_rfl) ht with ⟨hcs, _⟩ | ⟨a2, len2, cap2, zs, hcs, _, hl2, hm2, hz, _, hcell, hwz⟩
      · have e2 : Vv i = .slice none 0 0 := by simpa using hcs
        rw [e2] at hc
        exact ⟨[], ⟨none, 0, hc, Nat.le_refl _, by omega, Ints.nil⟩, by simp⟩
      · have e2 : Vv i = .slice (some a2) len2 cap2 := by simpa using hcs
        rw [e2] at hc
        have hzl : len2 ≤ zs.length := by rw [hz]; split <;> omega
        have hlen : (zs.take len2).length = len2 := by rw [List.length_take]; omega
        refine ⟨zs.take len2, ⟨some a2, cap2, by rw [hlen]; exact hc, by rw [hlen]; exact hl2, by unfold maxLen at hm2; omega, ?_⟩, ?_⟩
        · refine Ints.mk_ fun k x hx => ?_
          have hk : k < len2 := by
            have := (List.getElem?_eq_some_iff.1 hx).1; rw [List.length_take] at this; omega
          rw [List.getElem?_take_of_lt hk] at hx
          have := hcell k (by omega)
          rwa [List.getD_eq_getElem?_getD, hx] at this
        · intro x hx
          have := hwz x (List.mem_of_mem_take hx)
          simp [Lit.wf, IntKind.min, IntKind.max, IntKind.signed, IntKind.bits] at this
          omega
    obtain ⟨f, hf⟩ := choose_lt hint
    refine ⟨some a, len', cap', (List.range len').map f, rfl, by simp, hl, by unfold maxLen at hm; omega, ?_, ?_⟩
    · intro i r hr
      have hi : i < len' := by have := (List.getElem?_eq_some_iff.1 hr).1; simpa using this
      have hg : ((List.range len').map f)[i]? = some (f i) := by simp [hi]
      rw [hg] at hr
      injection hr with hr
      subst hr
      obtain ⟨⟨A', c, h1, h2, h3, h4⟩, _⟩ := hf i hi
      exact ⟨a, A', c, rfl, h1, h2, h3, h4⟩
    · intro r hr
      obtain ⟨i, hi, rfl⟩ := List.mem_map.1 hr
      exact (hf i (List.mem_range.1 hi)).2
end

/- Contracts: the copies of the beginning of an argument that the statements of package corrodylaw01 make. -/

set_option maxHeartbeats 400000 in
theorem list_any (A : Option Addr) (n cap : Nat) (xs : List Int) (w : World) (hl : xs.length = n) (hc : n ≤ cap) (hm : cap ≤ 9223372036854775807) (h : Ints w A xs) :
    Calls Try.prog 20 #[.slice A n cap] w fun e w' => ∃ A' c, e = .returned (.slice A' (min n 9) c) ∧ w'.ownsRow w.heap.size 3 1 (.slice A' (min n 9) c) (min n 9) ((xs.take 9).map (Value.int .i64)) ∧ Below w.heap.size w w' := by
  have h9 : min n 9 ≤ 9 := by omega
  have hk := h.take 9
  have hl' : (xs.take 9).length = min n 9 := by rw [List.length_take, hl]; omega
  have HK := Lib.hid hk
  have HL := Lib.hid hl'
  clear hk h hl hl'
  by_cases h0 : n ≤ 9
  · have e0 : min n 9 = n := by omega
    rw [e0]
    have HE := Lib.hid e0
    clear e0
    go_enter Try.func20, Try.ntmps20
    go_wp2_with fail
    refine (clone_any A n cap (xs.take 9) _ (by rw [HL.out, HE.out]) (by omega) HK.out).mono ?_
    rintro e w' ⟨A', c, rfl, hown, hb⟩
    have HO := Lib.hid hown
    have HB := Lib.hid hb
    clear hown hb
    go_wp2
    go_ret
    exact ⟨A', c, rfl, HO.out, HB.out⟩
  · have e0 : min n 9 = 9 := by omega
    rw [e0]
    have HE := Lib.hid e0
    clear e0
    go_enter Try.func20, Try.ntmps20
    go_wp2_with fail
    refine (clone_any A 9 cap (xs.take 9) _ (by rw [HL.out, HE.out]) (by omega) HK.out).mono ?_
    rintro e w' ⟨A', c, rfl, hown, hb⟩
    have HO := Lib.hid hown
    have HB := Lib.hid hb
    clear hown hb
    go_wp2
    go_ret
    exact ⟨A', c, rfl, HO.out, HB.out⟩

/- The copies of arguments, read plainly. -/

theorem lst_any (A : Option Addr) (n cap : Nat) (xs : List Int) (w : World) (hl : xs.length = n) (hc : n ≤ cap) (hm : cap ≤ 9223372036854775807) (h : Ints w A xs) :
    Calls Try.prog 20 #[.slice A n cap] w fun e w' => ∃ A' k c, e = .returned (.slice A' k c) ∧ (xs.take 9).length = k ∧ k ≤ 9 ∧ k ≤ c ∧ c ≤ 9223372036854775807 ∧ Ints w' A' (xs.take 9) ∧ Below w.heap.size w w' := by
  refine (list_any A n cap xs w hl hc hm h).mono ?_
  rintro e w' ⟨A', c, rfl, hown, hb⟩
  obtain ⟨_, _, he, h1, h2, _⟩ := own_form hown
  injection he with _ _ he
  subst he
  exact ⟨A', min n 9, c, rfl, by rw [List.length_take, hl, Nat.min_comm], by omega, h1, h2, At.of_own hown, hb⟩


/- Contracts: Worth and own of the reference (package corrodyref01); turned from those of package split. -/

set_option maxHeartbeats 800000 in
theorem r1worth_any (A : Option Addr) (n cap : Nat) (D : Option Addr) (m capd i : Nat) (j : Int) (V : List (List Int)) (d : List Int) (w : World) (hl : V.length = n) (hn : n ≤ 1000) (hi : i < n) (hld : d.length = m) (hm : m ≤ 1000)
    (hr : (rowV V i).length = m) (hrb : ∀ x ∈ rowV V i, 0 ≤ x ∧ x ≤ 100) (hV : Mat w A V) (hD : Ints w D d) :
    Calls Try.prog 67 #[.slice A n cap, .slice D m capd, .int .i64 i, .int .i64 j] w fun e w' => e = .returned (.int .i64 (wor V d i j)) ∧ w = w' := by
  obtain ⟨ad, rfl, _, hc⟩ := hV.some_ (by omega)
  obtain ⟨A', c, h1, h2, h3, h4⟩ := hc i _ (List.getElem?_eq_getElem (by omega))
  have er : rowV V i = V[i]'(by omega) := rowV_get (List.getElem?_eq_getElem (by omega))
  rw [← er] at h1 h2 h4
  rw [hr] at h1 h2
  have hID := fun (hp : 0 < d.length) => hD.some_ hp
  have hIR := fun (hp : 0 < (rowV V i).length) => h4.some_ hp
  have hw : wor V d i j = worTo (rowV V i) d j m := by unfold wor; rw [hld]
  have H := Lib.hid (And.intro hld (And.intro hr (And.intro hrb (And.intro hID (And.intro hIR hw)))))
  have l1 : (i : Int) < (n : Int) := by omega
  have l2 : (0 : Int) ≤ (i : Int) := by omega
  clear hl hld hr hrb hV hD hc h4 er hID hIR hw
  go_enter Try.func67, Try.ntmps67
  go_wp2_with fail
  go_loop [9, 14] (fun s g => ∃ k : Nat, k ≤ m ∧ g = .int .i64 k ∧ s = .int .i64 (worTo (rowV V i) d j k)) (fun _ g => m - (intOf g).toNat)
  case atStart => exact ⟨0, Nat.zero_le _, rfl, rfl⟩
  case round =>
    obtain ⟨k, hk, rfl, rfl⟩ := hrel
    by_cases hlt : k < m
    · obtain ⟨hld, hr, hrb, hID, hIR, hw⟩ := H.out
      obtain ⟨bd, rfl, _, hcd⟩ := hID (by omega)
      obtain ⟨br, rfl, _, hcr⟩ := hIR (by omega)
      obtain ⟨y, hy⟩ : ∃ y, d[k]? = some y := ⟨_, List.getElem?_eq_getElem (by omega)⟩
      obtain ⟨x, hx⟩ : ∃ x, (rowV V i)[k]? = some x := ⟨_, List.getElem?_eq_getElem (by omega)⟩
      have c1 := hcd k y hy
      have c2 := hcr k x hx
      have hb := worTo_bd hrb d j k
      have hxb := hrb x (List.mem_of_getElem? hx)
      have hs : worTo (rowV V i) d j (k + 1) = worTo (rowV V i) d j k + if y = j then x else 0 := by
        rw [worTo, List.getD_eq_getElem?_getD, List.getD_eq_getElem?_getD, hy, hx]; rfl
      obtain ⟨s, hse⟩ : ∃ s, s = worTo (rowV V i) d j k := ⟨_, rfl⟩
      rw [← hse] at hb hs ⊢
      have HS := Lib.hid hs
      clear hld hr hrb hID hIR hw hcd hcr hy hx hs hse
      by_cases he : y = j
      · have hb2 : (y == j) = true := by simp [he]
        have HN : Hid (worTo (rowV V i) d j (k + 1) = s + x) := Lib.hid (by rw [HS.out, if_pos he])
        clear he
        go_wp2_with fail
        go_round
        case rel => exact ⟨k + 1, by omega, by go_num, by rw [HN.out]⟩
        case measure => simp [intOf]; omega
      · have hb2 : (y == j) = false := by simp [he]
        have HN : Hid (worTo (rowV V i) d j (k + 1) = s) := Lib.hid (by rw [HS.out, if_neg he]; omega)
        clear he
        go_wp2_with fail
        go_round
        case rel => exact ⟨k + 1, by omega, by go_num, by rw [HN.out]⟩
        case measure => simp [intOf]; omega
    · obtain rfl : m = k := by omega
      have HW := Lib.hid H.out.2.2.2.2.2
      go_wp2_with fail
      go_ret
      exact ⟨ret_int HW.out.symm, rfl⟩

set_option maxHeartbeats 800000 in
theorem r1own_any (A : Option Addr) (n cap : Nat) (D : Option Addr) (m capd : Nat) (V : List (List Int)) (d : List Int) (w : World) (hl : V.length = n) (hn : n ≤ 1000) (hld : d.length = m) (hm : m ≤ 1000)
    (hr : ∀ i, i < n → (rowV V i).length = m ∧ ∀ x ∈ rowV V i, 0 ≤ x ∧ x ≤ 100) (hV : Mat w A V) (hD : Ints w D d) :
    Calls Try.prog 81 #[.slice A n cap, .slice D m capd] w fun e w' => ∃ A' c, e = .returned (.slice A' n c) ∧ w'.ownsRow w.heap.size 3 1 (.slice A' n c) n ((ownV V d n).map (Value.int .i64)) ∧ Below w.heap.size w w' := by
  have H := Lib.hid (And.intro hl (And.intro hld (And.intro hr (And.intro hV hD))))
  clear hl hld hr hV hD
  go_enter Try.func81, Try.ntmps81
  go_wp2_with fail
  go_loopw [5, 9] (fun ov iv wr => ∃ (k : Nat) (B : Option Addr) (bc : Nat), k ≤ n ∧ iv = .int .i64 k ∧ ov = .slice B k bc ∧ wr.ownsRow w.heap.size 3 1 (.slice B k bc) k ((ownV V d k).map (Value.int .i64)) ∧ Below w.heap.size w wr) (fun _ iv _ => n - (intOf iv).toNat)
  case atStart => exact ⟨0, none, 0, Nat.zero_le _, rfl, rfl, World.ownsRow_nil _ _ _ _, Below.refl _ _⟩
  case round =>
    obtain ⟨k, B, bc, hk, rfl, rfl, hown, hbl⟩ := hrel
    have HR := Lib.hid (And.intro hown hbl)
    have hws := hbl.size
    clear hown hbl
    by_cases hlt : k < n
    · have HNEW : Hid ((ownV V d (k + 1)).map (Value.int .i64) = (ownV V d k).map (Value.int .i64) ++ [.int .i64 (wor V d k (k : Int))]) := Lib.hid (by rw [ownV_succ]; simp)
      go_wp2_with fail
      refine (r1worth_any A n cap D m capd k (k : Int) V d _ H.out.1 hn hlt H.out.2.1 hm (H.out.2.2.1 k hlt).1 (H.out.2.2.1 k hlt).2 (H.out.2.2.2.1.below HR.out.2) (H.out.2.2.2.2.below HR.out.2)).mono ?_
      rintro e w' ⟨rfl, rfl⟩
      generalize wor V d k (k : Int) = x at HNEW ⊢
      go_wp2_with (at_builtin; refine app1 sty_int rfl _ _ rfl w.heap.size B k bc _ #[.int .i64 x] rfl (by simp [Value.oneCell']) rfl HR.out.1 rfl (by omega) (by omega) ?_)
      intro A4 k4 w4 hown4 _ hbl4 hk41 hk42
      rw [← HNEW.out] at hown4
      have HR4 := Lib.hid (And.intro hown4 (HR.out.2.trans hbl4))
      clear hown4 hbl4
      go_wp2_with fail
      go_roundw
      case rel => exact ⟨k + 1, A4, k4, by omega, by go_num, rfl, HR4.out.1, HR4.out.2⟩
      case measure => simp [intOf]; omega
    · obtain rfl : n = k := by omega
      go_wp2_with fail
      go_ret
      exact ⟨B, bc, rfl, HR.out.1, HR.out.2⟩

/- Contract: IsBetter of the reference (package corrodyref01). -/

/-- Some number of the first is less than that of the second. -/
def lessAny (x y : List Int) : Bool := (x.zip y).any fun p => decide (p.1 < p.2)
/-- No number is less, and some is more. -/
def bet (x y : List Int) : Bool := !lessAny x y && lessAny y x
theorem lessAny_take {x y : List Int} {k : Nat} {a b : Int} (hx : x[k]? = some a) (hy : y[k]? = some b) : lessAny (x.take (k + 1)) (y.take (k + 1)) = (lessAny (x.take k) (y.take k) || decide (a < b)) := by
  have hz : ∀ j, (x.take j).zip (y.take j) = (x.zip y).take j := fun j => by simp [List.zip, List.take_zipWith]
  unfold lessAny
  rw [hz, hz, List.take_add_one, (List.getElem?_zip_eq_some (z := (a, b))).2 ⟨hx, hy⟩]
  simp
theorem lessAny_at {x y : List Int} {k : Nat} {a b : Int} (hx : x[k]? = some a) (hy : y[k]? = some b) (h : a < b) : lessAny x y = true :=
  List.any_eq_true.2 ⟨(a, b), List.mem_of_getElem? ((List.getElem?_zip_eq_some (z := (a, b))).2 ⟨hx, hy⟩), by simpa using h⟩
theorem bet_eq {x y : List Int} (h : x.length = y.length) : bet x y = (!lessAny x y && !decide (x = y)) := by
  unfold bet
  cases hw : lessAny x y
  · simp only [Bool.not_false, Bool.true_and]
    rw [Bool.eq_iff_iff]
    simp only [Bool.not_eq_true', decide_eq_false_iff_not]
    constructor
    · rintro hm rfl
      rw [hw] at hm; cases hm
    · intro hne
      apply Decidable.byContradiction
      intro hm
      rw [Bool.not_eq_true] at hm
      apply hne
      apply List.ext_getElem? 
      intro k
      by_cases hk : k < x.length
      · have e1 : x[k]? = some (x[k]'hk) := List.getElem?_eq_getElem hk
        have e2 : y[k]? = some (y[k]'(by omega)) := List.getElem?_eq_getElem (by omega)
        rw [e1, e2]
        congr 1
        apply Int.le_antisymm
        · apply Int.not_lt.1; intro hlt; rw [lessAny_at e2 e1 hlt] at hm; cases hm
        · apply Int.not_lt.1; intro hlt; rw [lessAny_at e1 e2 hlt] at hw; cases hw
      · rw [List.getElem?_eq_none (by omega), List.getElem?_eq_none (by omega)]
  · rfl

set_option maxRecDepth 100000 in
set_option maxHeartbeats 1600000 in
theorem isbetter_any (A : Option Addr) (n cap : Nat) (D E : Option Addr) (m capd cape : Nat) (V : List (List Int)) (d f : List Int) (w : World) (hl : V.length = n) (hn : n ≤ 1000) (hld : d.length = m) (hle : f.length = m) (hm : m ≤ 1000)
    (hr : ∀ i, i < n → (rowV V i).length = m ∧ ∀ x ∈ rowV V i, 0 ≤ x ∧ x ≤ 100) (hV : Mat w A V) (hD : Ints w D d) (hE : Ints w E f) :
    Calls Try.prog 56 #[.slice A n cap, .slice D m capd, .slice E m cape] w fun e w' => e = .returned (.bool (bet (ownV V d n) (ownV V f n))) ∧ Below w.heap.size w w' := by
  have H := Lib.hid (And.intro hl (And.intro hld (And.intro hle (And.intro hr (And.intro hV (And.intro hD hE))))))
  clear hl hld hle hr hV hD hE
  obtain ⟨x, hx⟩ : ∃ x, x = ownV V d n := ⟨_, rfl⟩
  obtain ⟨y, hy⟩ : ∃ y, y = ownV V f n := ⟨_, rfl⟩
  rw [← hx, ← hy]
  have HXY := Lib.hid (And.intro hx (And.intro hy (And.intro (show x.length = n by rw [hx, ownV_length]) (show y.length = n by rw [hy, ownV_length]))))
  clear hx hy
  go_enter Try.func56, Try.ntmps56
  go_wp2_with fail
  refine (r1own_any A n cap D m capd V d _ H.out.1 hn H.out.2.1 hm H.out.2.2.2.1 H.out.2.2.2.2.1 H.out.2.2.2.2.2.1).mono ?_
  rintro e w1 ⟨A1, c1, rfl, hown, hb⟩
  have hI1 : Ints w1 A1 x := by rw [HXY.out.1]; exact At.of_own hown
  have H1 := Lib.hid (And.intro hI1 hb)
  clear hown hI1 hb
  go_wp2_with fail
  refine (r1own_any A n cap E m cape V f _ H.out.1 hn H.out.2.2.1 hm H.out.2.2.2.1 (H.out.2.2.2.2.1.below H1.out.2) (H.out.2.2.2.2.2.2.below H1.out.2)).mono ?_
  rintro e w2 ⟨A2, c2, rfl, hown, hb⟩
  have hI2 : Ints w2 A2 y := by rw [HXY.out.2.1]; exact At.of_own hown
  have H2 := Lib.hid (And.intro (H1.out.1.below hb) (And.intro hI2 (And.intro (H1.out.2.trans (hb.mono H1.out.2.size)) HXY.out.2.2)))
  clear hown hI2 hb H H1 HXY
  go_wp2_with fail
  go_loopw [7, 19] (fun bv iv wr => ∃ k : Nat, k ≤ n ∧ iv = .int .i64 k ∧ bv = .bool (lessAny (y.take k) (x.take k)) ∧ lessAny (x.take k) (y.take k) = false ∧ Below w2.heap.size w2 wr) (fun _ iv _ => n - (intOf iv).toNat)
  case atStart => exact ⟨0, Nat.zero_le _, rfl, rfl, rfl, Below.refl _ _⟩
  case round =>
    obtain ⟨k, hk, rfl, rfl, hla, hbl⟩ := hrel
    obtain ⟨wo, rfl⟩ : ∃ wo : World, wo = wr := ⟨_, rfl⟩
    have HR := Lib.hid (And.intro hla hbl)
    clear hla hbl
    by_cases hlt : k < n
    · obtain ⟨a, ha⟩ : ∃ a, x[k]? = some a := ⟨_, List.getElem?_eq_getElem (by have := H2.out.2.2.2.1; omega)⟩
      obtain ⟨b, hb⟩ : ∃ b, y[k]? = some b := ⟨_, List.getElem?_eq_getElem (by have := H2.out.2.2.2.2; omega)⟩
      obtain ⟨ax, rfl, hcx⟩ := H2.out.1 k (.int .i64 a) (by rw [List.getElem?_map, ha]; rfl)
      obtain ⟨ay, rfl, hcy⟩ := H2.out.2.1 k (.int .i64 b) (by rw [List.getElem?_map, hb]; rfl)
      have hcx2 := (HR.out.2.cell (lt_of_cell hcx)).trans hcx
      have hcy2 := (HR.out.2.cell (lt_of_cell hcy)).trans hcy
      have HT := Lib.hid (And.intro (lessAny_take ha hb) (lessAny_take hb ha))
      have HN := Lib.hid (And.intro ha hb)
      have l1 : (k : Int) < (n : Int) := by omega
      clear ha hb hcx hcy
      by_cases hab : a < b
      · have HF : Hid (false = bet x y) := Lib.hid (by unfold bet; rw [lessAny_at HN.out.1 HN.out.2 hab]; rfl)
        have HB := Lib.hid (H2.out.2.2.1.trans (HR.out.2.mono H2.out.2.2.1.size))
        go_wp2_with fail
        go_quiet (fail)
        go_wp2_with fail
        go_ret
        exact ⟨ret_bool HF.out, below_drewN HB.out _⟩
      · have hla : lessAny (x.take (k + 1)) (y.take (k + 1)) = false := by rw [HT.out.1, HR.out.1, decide_eq_false hab]; rfl
        have HT2 := Lib.hid HT.out.2
        have HLA := Lib.hid hla
        clear hla
        generalize lessAny (y.take k) (x.take k) = mo at *
        cases mo
        · go_wp2_with fail
          go_quiet (fail)
          go_wp2_with fail
          go_quiet (fail)
          go_wp2_with fail
          go_roundw
          case rel => exact ⟨k + 1, by omega, by go_num, by rw [HT2.out]; rfl, HLA.out, below_drewN HR.out.2 _⟩
          case measure => simp [intOf]; omega
        · go_wp2_with fail
          go_quiet (fail)
          go_wp2_with fail
          go_quiet (fail)
          go_wp2_with fail
          go_roundw
          case rel => exact ⟨k + 1, by omega, by go_num, by rw [HT2.out]; rfl, HLA.out, below_drewN HR.out.2 _⟩
          case measure => simp [intOf]; omega
    · obtain rfl : k = n := by omega
      have hT : x.take k = x := List.take_of_length_le (by have := H2.out.2.2.2.1; omega)
      have hT2 : y.take k = y := List.take_of_length_le (by have := H2.out.2.2.2.2; omega)
      have HF : Hid (lessAny (y.take k) (x.take k) = bet x y) := Lib.hid (by have := HR.out.1; rw [hT, hT2] at *; unfold bet; rw [this]; rfl)
      have HB := Lib.hid (H2.out.2.2.1.trans (HR.out.2.mono H2.out.2.2.1.size))
      rw [HF.out]
      clear hT hT2
      go_wp2_with fail
      go_ret
      exact ⟨rfl, HB.out⟩

/- Where a slice lies after append: where it lay, or in new memory. -/

/-- The first lies where the second lies, or in new memory. -/
def Stay (w : World) (v' v : Value) : Prop := ∀ ad' n' k', v' = .slice (some ad') n' k' → (∃ n k, v = .slice (some ad') n k) ∨ w.heap.size ≤ ad'.block

theorem run_where {T e : TypeId} {z : Value} {size bytes : Nat} (ty : STy T e z size bytes) (rt : TypeId) {w w' : World} {base : Nat} {v v' : Value} {n : Nat} {xs : List Value} (hown : w.ownsRow base e size v n xs)
    {a : Addr} {m c : Nat} {news : List Value} (hl : news.length = m * size) (hnews : ∀ j u, news[j]? = some u → w.cell? (a.add j) = some u) (h1 : ∀ u ∈ news, u.oneCell' = true)
    (hn : n + m ≤ 1000000) (hr : (Builtin.append_ #[T, T] rt #[v, .slice (some a) m c]).run Try.prog w = .ok v' w') (hm : 0 < m) : Stay w v' v := by
  obtain ⟨i0, hi, hz0, hz1, hz2⟩ := info_parts ty.inf
  have hb : (n + m) * i0.bytes ≤ 140737488355328 := by
    have h2 := ty.hby
    rw [hz2]
    calc (n + m) * bytes ≤ 1000000 * 100 := Nat.mul_le_mul (by omega) h2
      _ ≤ _ := by decide
  have hb2 : m * i0.bytes ≤ 281474976710656 := Nat.le_trans (Nat.mul_le_mul_right _ (by omega)) (Nat.le_trans hb (by decide))
  intro ad' n' k' he
  rcases hown.2 with ⟨rfl, rfl⟩ | ⟨g, cap, cur, rfl, hbg, hg, hnc, hcm, hcs, htake⟩
  · have h := run_append_nil (P := Try.prog) w T rt e i0 z ty.ht hi hz0 a m c news (by rw [hz1]; exact hl) hnews hm (by omega) hb2
    rw [h] at hr
    injection hr with hr _
    rw [← hr] at he
    injection he with he
    injection he with he
    exact .inr (by rw [← he]; exact Nat.le_refl _)
  · by_cases hroom : n + m ≤ cap
    · have hfit : n * i0.size + news.length ≤ cur.size := by rw [hz1, hl, hcs, ← Nat.add_mul]; exact Nat.mul_le_mul_right _ hroom
      have h := run_append_room (P := Try.prog) w T rt e i0 ty.ht hi g n cap cur hg a m c news (by rw [hz1]; exact hl) hnews h1 hroom hfit
      rw [h] at hr
      injection hr with hr _
      rw [← hr] at he
      injection he with he
      exact .inl ⟨n, cap, by rw [he]⟩
    · have holds : ∀ j u, xs[j]? = some u → w.cell? ((⟨g, 0, none⟩ : Addr).add j) = some u := hown.cells (g := g) rfl
      have h := run_append_grow (P := Try.prog) w T rt e i0 z ty.ht hi hz0 ⟨g, 0, none⟩ n cap xs (by rw [hz1]; exact hown.1) holds a m c news (by rw [hz1]; exact hl) hnews (by omega) (by omega) (growslice_fits (by omega) hb)
      rw [h] at hr
      injection hr with hr _
      rw [← hr] at he
      injection he with he
      injection he with he
      exact .inr (by rw [← he]; exact Nat.le_refl _)

theorem wp_app1w {T e : TypeId} {z : Value} {bytes : Nat} (ty : STy T e z 1 bytes) {o : Oper} {a : Act} {K : Act → World → Prop} {Q : Exit → Act → World → Prop} {w : World}
    (s x : Operand) (ho : o.op = .call { callee := .builtin .append, args := #[s, x], argTypes := #[T, T] })
    (base : Nat) (A : Option Addr) (n k : Nat) (xs : List Value) (u : Value) (h1 : u.oneCell' = true)
    (hs : a.eval s = .slice A n k) (hown : w.ownsRow base e 1 (.slice A n k) n xs) (g : Nat) (hx : a.eval x = .slice (some ⟨g, 0, none⟩) 1 1) (hg : g = w.heap.size)
    (hn : n ≤ 100000) (hb : base ≤ w.heap.size)
    (h : ∀ (A' : Option Addr) (k' : Nat) (w' : World), w'.ownsRow base e 1 (.slice A' (n + 1) k') (n + 1) (xs ++ [u]) → w.grownBy w' (Value.slice A n k).ownBlock → Below base w w' → n + 1 ≤ k' → k' ≤ 9223372036854775807 → Stay w (.slice A' (n + 1) k') (.slice A n k) →
      K (a.put o.dst (.slice A' (n + 1) k')) w') : o.wp Try.prog a (w.alloc (.cells #[u] e)) K Q := by
  subst hg
  obtain ⟨i0, hi, hz0, hz1, hz2⟩ := info_parts ty.inf
  have hnews : ∀ j x, [u][j]? = some x → (w.alloc (.cells #[u] e)).cell? ((⟨w.heap.size, 0, none⟩ : Addr).add j) = some x := by
    intro j x hx
    exact (At.some2 (Blk.new w e #[u] rfl).at_) j x hx
  have hbytes : (n + 1) * bytes ≤ 140737488355328 := by
    have h2 := ty.hby
    calc (n + 1) * bytes ≤ 1000000 * 100 := Nat.mul_le_mul (by omega) h2
      _ ≤ _ := by decide
  have hone : ∀ x ∈ [u], x.oneCell' = true := by intro x hx; rw [List.mem_singleton.1 hx]; exact h1
  obtain ⟨v', w', hr, hown', hg, _⟩ := run_append_own (P := Try.prog) (w.alloc (.cells #[u] e)) base T o.type e i0 z 1 bytes ty.ht hi hz0 hz1 hz2 ty.hzs ty.hsz (.slice A n k) n xs (hown.alloc _)
    ⟨w.heap.size, 0, none⟩ 1 1 [u] rfl hnews hone (by unfold maxLen; omega) hbytes (by go_size)
  have hst := run_where ty o.type (hown.alloc _) (m := 1) rfl hnews hone (by omega) hr (by omega)
  unfold Oper.wp execOp
  simp only [ho, resolve, invoke, builtin, Sem.run_bind, Sem.run_pure, Result.andThen_ok, List.map_toArray, List.map_cons, List.map_nil, hs, hx, hr]
  obtain ⟨A', k', rfl, hk, hk', _⟩ := own_form hown'
  have hg' : w.grownBy w' (Value.slice A n k).ownBlock :=
    ⟨hg.os, hg.tape, hg.output, Nat.le_trans (by simp) hg.size, fun b hb hne => (hg.block b (Nat.lt_of_lt_of_le hb (by simp)) hne).trans (Below.heap_alloc w _ b hb)⟩
  refine h A' k' w' hown' hg' ?_ hk hk' ?_
  · refine ⟨hg'.os, hg'.tape, hg'.output, hg'.size, fun b hb' => hg'.block b (by omega) fun he => ?_⟩
    have := (hown.lt b he.symm).1
    omega
  · intro ad' n' k'' he
    rcases hst ad' n' k'' he with h | h
    · exact .inl h
    · exact .inr (Nat.le_trans (by simp) h)

theorem app1w {T e : TypeId} {z : Value} {bytes : Nat} (ty : STy T e z 1 bytes) {ops : Array Oper} {rest : List Oper} {o : Oper} {a : Act} {Q : Exit → Act → World → Prop} {w : World}
    (hgd : o.guard = none) (s x : Operand) (ho : o.op = .call { callee := .builtin .append, args := #[s, x], argTypes := #[T, T] })
    (base : Nat) (A : Option Addr) (n k : Nat) (xs : List Value) (u : Value) (h1 : u.oneCell' = true)
    (hs : a.eval s = .slice A n k) (hown : w.ownsRow base e 1 (.slice A n k) n xs) (g : Nat) (hx : a.eval x = .slice (some ⟨g, 0, none⟩) 1 1) (hg : g = w.heap.size)
    (hn : n ≤ 100000) (hb : base ≤ w.heap.size)
    (h : ∀ (A' : Option Addr) (k' : Nat) (w' : World), w'.ownsRow base e 1 (.slice A' (n + 1) k') (n + 1) (xs ++ [u]) → w.grownBy w' (Value.slice A n k).ownBlock → Below base w w' → n + 1 ≤ k' → k' ≤ 9223372036854775807 → Stay w (.slice A' (n + 1) k') (.slice A n k) →
      wpList Try.prog ops Q rest (a.put o.dst (.slice A' (n + 1) k')) w') : wpList Try.prog ops Q (o :: rest) a (w.alloc (.cells #[u] e)) :=
  wpList_plain hgd fun _ hK => wp_app1w ty s x ho base A n k xs u h1 hs hown g hx hg hn hb fun A' k' w' a1 a2 a3 a4 a5 a6 => hK _ _ (h A' k' w' a1 a2 a3 a4 a5 a6)

/- All divisions in order: numbers written with so many digits. Plain Lean. -/

/-- t with m digits to the base n, the greatest first. -/
def dig (n : Nat) : Nat → Nat → List Nat
  | 0, _ => []
  | m + 1, t => dig n m (t / n) ++ [t % n]
def dz (n m t : Nat) : List Int := (dig n m t).map Int.ofNat
theorem dig_length (n m t : Nat) : (dig n m t).length = m := by
  induction m generalizing t with
  | zero => rfl
  | succ m ih => simp [dig, ih]
theorem dz_length (n m t : Nat) : (dz n m t).length = m := by simp [dz, dig_length]
theorem dig_lt {n : Nat} (hn : 0 < n) (m t : Nat) : ∀ x ∈ dig n m t, x < n := by
  induction m generalizing t with
  | zero => simp [dig]
  | succ m ih =>
    intro x hx
    simp only [dig, List.mem_append, List.mem_singleton] at hx
    rcases hx with hx | rfl
    · exact ih _ x hx
    · exact Nat.mod_lt _ hn
theorem dz_lt {n : Nat} (hn : 0 < n) (m t : Nat) : ∀ x ∈ dz n m t, 0 ≤ x ∧ x < n := by
  intro x hx
  obtain ⟨y, hy, rfl⟩ := List.mem_map.1 hx
  have := dig_lt hn m t y hy
  show 0 ≤ (y : Int) ∧ (y : Int) < n
  omega
theorem dig_zero (n m : Nat) : dig n m 0 = List.replicate m 0 := by
  induction m with
  | zero => rfl
  | succ m ih => simp [dig, ih, List.replicate_succ']
theorem dz_zero (n m : Nat) : dz n m 0 = List.replicate m 0 := by simp [dz, dig_zero]
theorem dig_pow {n : Nat} (hn : 0 < n) (k j q : Nat) : dig n (k + j) (q * n ^ j) = dig n k q ++ List.replicate j 0 := by
  induction j with
  | zero => simp
  | succ j ih =>
    show dig n (k + j + 1) _ = _
    have e1 : q * n ^ (j + 1) = n * (q * n ^ j) := by rw [Nat.pow_succ, ← Nat.mul_assoc, Nat.mul_comm]
    rw [dig, e1, Nat.mul_div_cancel_left _ hn, ih, Nat.mul_mod_right, List.append_assoc, List.replicate_succ']
/-- The array while the last digits are turned to 0. -/
def dzs (n k j q : Nat) : List Int := dz n k q ++ List.replicate j 0
theorem dzs_length (n k j q : Nat) : (dzs n k j q).length = k + j := by simp [dzs, dz_length]
theorem dzs_start (n m t : Nat) : dzs n m 0 t = dz n m t := by simp [dzs]
theorem dzs_get (n k j q : Nat) : (dzs n (k + 1) j q)[k]? = some ((q % n : Nat) : Int) := by
  unfold dzs dz
  rw [dig, List.map_append, List.append_assoc, List.getElem?_append_right (by simp [dig_length])]
  simp [dig_length]
theorem dzs_set (n k j q : Nat) (x : Int) : (dzs n (k + 1) j q).set k x = dz n k (q / n) ++ x :: List.replicate j 0 := by
  unfold dzs dz
  rw [dig, List.map_append, List.append_assoc, List.set_append_right _ _ (by simp [dig_length])]
  simp [dig_length]
theorem dzs_on (n k j q : Nat) : (dzs n (k + 1) j q).set k 0 = dzs n k (j + 1) (q / n) := by
  rw [dzs_set]; rfl
theorem dzs_up {n : Nat} {k j q : Nat} (h : q % n < n - 1) : (dzs n (k + 1) j q).set k (((q % n : Nat) : Int) + 1) = dz n (k + 1 + j) ((q + 1) * n ^ j) := by
  have hn : 0 < n := by omega
  have e1 : (q + 1) / n = q / n := by
    have h1 := Nat.div_add_mod q n
    rw [Nat.div_eq_iff hn]
    have h2 : q / n * n = n * (q / n) := Nat.mul_comm _ _
    constructor <;> omega
  have e2 : (q + 1) % n = q % n + 1 := by
    have h1 := Nat.div_add_mod q n
    have h2 := Nat.div_add_mod (q + 1) n
    rw [e1] at h2
    omega
  rw [dzs_set]
  unfold dz
  rw [dig_pow hn, dig, e1, e2]
  simp
theorem last_on {n j q t : Nat} (hn : 0 < n) (ht : t + 1 = (q + 1) * n ^ j) (h : q % n = n - 1) : t + 1 = (q / n + 1) * n ^ (j + 1) := by
  have h1 := Nat.div_add_mod q n
  have e : q + 1 = (q / n + 1) * n := by
    rw [Nat.add_mul, Nat.one_mul, Nat.mul_comm]; omega
  rw [ht, e, Nat.pow_succ, Nat.mul_comm (n ^ j) n, Nat.mul_assoc]
theorem not_last {n k j q t : Nat} (ht : t < n ^ (k + 1 + j)) (he : t + 1 = (q + 1) * n ^ j) (h : q % n < n - 1) : t + 1 < n ^ (k + 1 + j) := by
  have hn : 0 < n := by omega
  refine Nat.lt_of_le_of_ne ht fun hc => ?_
  have h1 : (q + 1) * n ^ j = n ^ (k + 1) * n ^ j := by rw [← he, hc, Nat.pow_add]
  have h2 : q + 1 = n ^ (k + 1) := Nat.eq_of_mul_eq_mul_right (Nat.pow_pos hn) h1
  have h3 : (q + 1) % n = 0 := by rw [h2, Nat.pow_succ]; exact Nat.mul_mod_left _ _
  rw [Nat.add_mod] at h3
  have h4 : 1 % n = 1 := Nat.mod_eq_of_lt (by omega)
  rw [h4, Nat.mod_eq_of_lt (by omega)] at h3
  omega

/- Contract: each of package split, for whatever function it is called with. -/

theorem info_intD : (Try.prog.info? 3).map (fun i => (i.zero, i.size, i.bytes)) = some (some (.int .i64 0), 1, 8) := by kernel_rfl
/-- make(division, n). -/
theorem make_div (n : Nat) (hn : n ≤ 1000000) (w : World) : (Instr.makeSlice 64 (.int .i64 n) (.int .i64 n)).run Try.prog w = .ok (.slice (some ⟨w.heap.size, 0, none⟩) n n) (w.alloc (.cells (arr (List.replicate n 0)) 3)) := by
  obtain ⟨i0, hi, hz0, hz1, hz2⟩ := info_parts info_intD
  have hr := run_make (P := Try.prog) w 64 3 i0 (.int .i64 0) Try.underlying64 hi hz0 .i64 .i64 n n (by omega) (by omega) (by rw [hz2]; omega) (by omega)
  simp only [Int.toNat_natCast, hz1] at hr
  rw [hr, arr_zeros]

/-- What a call of the function leaves. -/
def EachPost (Inv : Nat → World → Prop) (Done : World → Prop) (n m t D : Nat) (e : Ending) (w' : World) : Prop :=
  (e = .returned (.bool true) ∧ Inv (t + 1) w' ∧ Blk w' D 3 (arr (dz n m t))) ∨ (e = .returned (.bool false) ∧ Done w')
/-- What each leaves. -/
def EachEnd (Inv : Nat → World → Prop) (Done : World → Prop) (k : Nat) (e : Ending) (w' : World) : Prop := e = .returned (.tuple #[]) ∧ (Inv k w' ∨ Done w')

/-- K is a function with a body. -/
def Ent (K : FuncId) : Prop := ∀ (args : Array Value) (w : World), (callFunc K args).run Try.prog w = .ok (.enter K args) w
theorem ent_of {K : FuncId} {fn : Func} (hf : Try.prog.funcs[K]? = some fn) (hn : (fn.name == "runtime.NumGoroutine") = false) (hb : fn.body.isNone = false) : Ent K := by
  intro args w
  have hn' : fn.name ≠ "runtime.NumGoroutine" := by simpa using hn
  have hb' : fn.body ≠ none := by intro h; rw [h] at hb; cases hb
  simp [callFunc, Sem.run_bind, hf, go_sem]
  rw [if_neg hn', if_neg hb']

set_option maxRecDepth 100000 in
set_option maxHeartbeats 1600000 in
theorem each_any (K : FuncId) (caps : Array Value) (A : Option Addr) (n cap m : Nat) (V : List (List Int)) (w : World) (Inv : Nat → World → Prop) (Done : World → Prop) (hK : Ent K)
    (hl : V.length = n) (hn : 1 ≤ n ∧ n ≤ 4) (hm : m = (rowV V 0).length) (hm7 : 1 ≤ m ∧ m ≤ 7) (hV : Mat w A V)
    (hst : Inv 0 (w.alloc (.cells (arr (List.replicate m 0)) 3)))
    (hset : ∀ t w' i v, Inv t w' → Inv t (w'.setCell ⟨w.heap.size, i, none⟩ v))
    (hcall : ∀ t w', t < n ^ m → Inv t w' → Blk w' w.heap.size 3 (arr (dz n m t)) → Calls Try.prog K (#[.slice (some ⟨w.heap.size, 0, none⟩) m m] ++ caps) w' (EachPost Inv Done n m t w.heap.size)) :
    Calls Try.prog 51 #[.slice A n cap, .func (.func K) #[] caps] w (EachEnd Inv Done (n ^ m)) := by
  have hmk := make_div m (by omega)
  unfold Ent at hK
  have H := Lib.hid (And.intro hl (And.intro hm (And.intro hV (And.intro hst (And.intro hset hcall)))))
  clear hl hm hV hst hset hcall
  go_enter Try.func51, Try.ntmps51
  go_wp2_with fail
  refine (goods_any A n cap m V _ H.out.1 hn.1 (by omega) H.out.2.1 (by omega) H.out.2.2.1).mono ?_
  rintro e w' ⟨rfl, rfl⟩
  go_wp2_with fail
  go_loopg [] (n ^ m) (fun g wr => ∃ t : Nat, t < n ^ m ∧ g = n ^ m - t ∧ Inv t wr ∧ Blk wr w.heap.size 3 (arr (dz n m t)))
  case atStart => exact ⟨0, Nat.pow_pos (by omega), by simp, H.out.2.2.2.1, by rw [dz_zero]; exact Blk.new _ _ _ rfl⟩
  case round =>
    obtain ⟨t, ht, hgk, hInv, hB⟩ := hrel
    have HG := Lib.hid (And.intro ht hgk)
    have hc := H.out.2.2.2.2.2 t wr ht hInv hB
    have HC := Lib.hid hc
    clear ht hgk hInv hB hc
    go_wp2_with fail
    refine HC.out.mono ?_
    rintro e w2 (⟨rfl, hI2, hB2⟩ | ⟨rfl, hD2⟩)
    · obtain ⟨ht, hgk⟩ := HG.out
      have H2 := Lib.hid (And.intro hI2 hB2)
      have em : IntKind.i64.wrap ((m : Int) - 1) = (m : Int) - 1 := IntWalk.i64_in _ (by omega)
      clear hI2 hB2 ht hgk
      go_wp2_with fail
      go_loopg [5] (m + 1) (fun g gv wr => ∃ k j q : Nat, g = k + 1 ∧ k + j = m ∧ gv = .int .i64 ((k : Int) - 1) ∧ t + 1 = (q + 1) * n ^ j ∧ Inv (t + 1) wr ∧ Blk wr w.heap.size 3 (arr (dzs n k j q)))
      case atStart => exact ⟨m, 0, t, rfl, rfl, rfl, by simp, H2.out.1, by rw [dzs_start]; exact H2.out.2⟩
      case round =>
        obtain ⟨k, j, q, rfl, hkj, rfl, htq, hI, hB⟩ := hrel
        have HR := Lib.hid (And.intro htq (And.intro hI hB))
        clear htq hI hB
        by_cases hk0 : k = 0
        · subst hk0
          have hfin : t + 1 = n ^ m := by
            obtain ⟨htq, _, _⟩ := HR.out
            obtain ⟨ht, _⟩ := HG.out
            obtain rfl : j = m := by omega
            have h1 : (q + 1) * n ^ j ≤ 1 * n ^ j := by rw [Nat.one_mul]; omega
            have hpos : 0 < n ^ j := Nat.pow_pos (by omega)
            have h2 := Nat.le_of_mul_le_mul_right h1 hpos
            have : q = 0 := by omega
            subst this
            omega
          have HF := Lib.hid hfin
          clear hfin
          go_wp2_with fail
          go_end0
          exact ⟨rfl, .inl (by rw [← HF.out]; exact HR.out.2.1)⟩
        · obtain ⟨k', rfl⟩ : ∃ k', k = k' + 1 := ⟨k - 1, by omega⟩
          have eg : ((k' + 1 : Nat) : Int) - 1 = (k' : Int) := by omega
          rw [eg]
          clear eg
          obtain ⟨r, hr⟩ : ∃ r, r = q % n := ⟨_, rfl⟩
          have hrn : r < n := by rw [hr]; exact Nat.mod_lt _ (by omega)
          have c1 : wr.cell? ⟨w.heap.size, k', none⟩ = some (.int .i64 (r : Int)) := by rw [HR.out.2.2.cell, arr_get, dzs_get, hr]; rfl
          have f1 : wr.frozen? ⟨w.heap.size, k', none⟩ = false := HR.out.2.2.frozen k'
          have l1 : (k' : Int) < (m : Int) := by omega
          have l2 : (0 : Int) ≤ (k' : Int) := by omega
          have HQ := Lib.hid hr
          clear hr
          by_cases hlast : r = n - 1
          · have hb : ((r : Int) == (n : Int) - 1) = true := by rw [beq_iff_eq]; omega
            have HL := Lib.hid hlast
            clear hlast
            go_wp2_with fail
            go_roundg (k' + 1)
            case measure => omega
            case rel =>
              refine ⟨k', j + 1, q / n, rfl, by omega, rfl, last_on (by omega) HR.out.1 (by rw [← HQ.out]; exact HL.out), H.out.2.2.2.2.1 _ _ _ _ HR.out.2.1, ?_⟩
              rw [← dzs_on, ← arr_set]
              exact HR.out.2.2.set_ k' _
          · have hb : ((r : Int) == (n : Int) - 1) = false := by rw [beq_eq_false_iff_ne]; omega
            have hlt : q % n < n - 1 := by rw [← HQ.out]; omega
            have hup := dzs_up (k := k') (j := j) hlt
            have hnl := not_last (k := k') (j := j) (t := t) (by rw [show k' + 1 + j = m from by omega]; exact HG.out.1) HR.out.1 hlt
            rw [← HQ.out, ← HR.out.1, show k' + 1 + j = m from by omega] at hup
            rw [show k' + 1 + j = m from by omega] at hnl
            have HU := Lib.hid (And.intro hup hnl)
            clear hlt hup hnl hlast
            go_wp2_with fail
            go_roundg (n ^ m - (t + 1))
            case measure => have := HG.out; have := HU.out.2; omega
            case rel =>
              refine ⟨t + 1, HU.out.2, rfl, H.out.2.2.2.2.1 _ _ _ _ HR.out.2.1, ?_⟩
              rw [← HU.out.1, ← arr_set]
              exact HR.out.2.2.set_ k' _
    · have HD := Lib.hid hD2
      clear hD2
      go_wp2_with fail
      go_end0
      exact ⟨rfl, .inr HD.out⟩

/- Contracts: cmp.Compare and slices.Compare of ints. -/

def cmpI (x y : Int) : Int := if x < y then -1 else if y < x then 1 else 0
/-- Which of two lists comes first. -/
def cmpL : List Int → List Int → Int
  | [], [] => 0
  | [], _ :: _ => -1
  | _ :: _, [] => 1
  | x :: a, y :: b => if cmpI x y = 0 then cmpL a b else cmpI x y
theorem cmpI_zero {x y : Int} : cmpI x y = 0 ↔ x = y := by
  unfold cmpI
  split
  · constructor
    · intro h; omega
    · omega
  · split
    · constructor
      · intro h; omega
      · omega
    · constructor
      · omega
      · omega
theorem cmpI_bd (x y : Int) : -1 ≤ cmpI x y ∧ cmpI x y ≤ 1 := by unfold cmpI; split <;> (try split) <;> omega
theorem cmpL_bd (a b : List Int) : -1 ≤ cmpL a b ∧ cmpL a b ≤ 1 := by
  induction a generalizing b with
  | nil => cases b <;> simp [cmpL]
  | cons x a ih =>
    cases b with
    | nil => simp [cmpL]
    | cons y b =>
      simp only [cmpL]
      split
      · exact ih b
      · exact cmpI_bd x y
theorem cmpL_get {a b : List Int} {k : Nat} {x y : Int} (hx : a[k]? = some x) (hy : b[k]? = some y) : cmpL (a.drop k) (b.drop k) = if cmpI x y = 0 then cmpL (a.drop (k + 1)) (b.drop (k + 1)) else cmpI x y := by
  obtain ⟨h1, e1⟩ := List.getElem?_eq_some_iff.1 hx
  obtain ⟨h2, e2⟩ := List.getElem?_eq_some_iff.1 hy
  rw [List.drop_eq_getElem_cons h1, List.drop_eq_getElem_cons h2, e1, e2, cmpL]
theorem cmpL_left {a b : List Int} {k : Nat} (h1 : k < a.length) (h2 : b.length ≤ k) : cmpL (a.drop k) (b.drop k) = 1 := by
  rw [List.drop_eq_getElem_cons h1, List.drop_of_length_le h2]; rfl
theorem cmpL_right {a b : List Int} {k : Nat} (h1 : a.length ≤ k) (h2 : k < b.length) : cmpL (a.drop k) (b.drop k) = -1 := by
  rw [List.drop_eq_getElem_cons h2, List.drop_of_length_le h1]; rfl
theorem cmpL_end {a b : List Int} {k : Nat} (h1 : a.length ≤ k) (h2 : b.length ≤ k) : cmpL (a.drop k) (b.drop k) = 0 := by
  rw [List.drop_of_length_le h1, List.drop_of_length_le h2]; rfl

theorem isnan_any (x : Int) (w : World) : Calls Try.prog 115 #[.int .i64 x] w fun e w' => e = .returned (.bool false) ∧ w = w' := by
  have hb : (x != x) = false := by simp
  go_enter Try.func115, Try.ntmps115
  go_wp2_with fail
  go_ret
  exact ⟨rfl, rfl⟩
theorem cmp_any (x y : Int) (w : World) : Calls Try.prog 109 #[.int .i64 x, .int .i64 y] w fun e w' => e = .returned (.int .i64 (cmpI x y)) ∧ w = w' := by
  by_cases h1 : x < y
  · have HE : Hid (cmpI x y = -1) := Lib.hid (by unfold cmpI; rw [if_pos h1])
    go_enter Try.func109, Try.ntmps109
    go_wp2_with fail
    refine (isnan_any x _).mono ?_
    rintro e w' ⟨rfl, rfl⟩
    go_wp2_with fail
    refine (isnan_any y _).mono ?_
    rintro e w' ⟨rfl, rfl⟩
    go_wp2_with fail
    go_ret
    exact ⟨ret_int HE.out.symm, rfl⟩
  · by_cases h2 : y < x
    · have HE : Hid (cmpI x y = 1) := Lib.hid (by unfold cmpI; rw [if_neg h1, if_pos h2])
      go_enter Try.func109, Try.ntmps109
      go_wp2_with fail
      refine (isnan_any x _).mono ?_
      rintro e w' ⟨rfl, rfl⟩
      go_wp2_with fail
      refine (isnan_any y _).mono ?_
      rintro e w' ⟨rfl, rfl⟩
      go_wp2_with fail
      go_ret
      exact ⟨ret_int HE.out.symm, rfl⟩
    · have HE : Hid (cmpI x y = 0) := Lib.hid (by unfold cmpI; rw [if_neg h1, if_neg h2])
      go_enter Try.func109, Try.ntmps109
      go_wp2_with fail
      refine (isnan_any x _).mono ?_
      rintro e w' ⟨rfl, rfl⟩
      go_wp2_with fail
      refine (isnan_any y _).mono ?_
      rintro e w' ⟨rfl, rfl⟩
      go_wp2_with fail
      go_ret
      exact ⟨ret_int HE.out.symm, rfl⟩

set_option maxHeartbeats 800000 in
theorem compare_any (A B : Option Addr) (n m ca cb : Nat) (ps qs : List Int) (w : World) (hl : ps.length = n) (hl' : qs.length = m) (hn : n ≤ 1000) (hm : m ≤ 1000) (h : Ints w A ps) (h' : Ints w B qs) :
    Calls Try.prog 102 #[.slice A n ca, .slice B m cb] w fun e w' => e = .returned (.int .i64 (cmpL ps qs)) ∧ w = w' := by
  have hI := fun (hp : 0 < ps.length) => h.some_ hp
  have hI' := fun (hp : 0 < qs.length) => h'.some_ hp
  have H := Lib.hid (And.intro hl (And.intro hl' (And.intro hI hI')))
  clear hl hl' hI hI' h h'
  go_enter Try.func102, Try.ntmps102
  go_wp2_with fail
  go_loop [11] (fun i => ∃ k : Nat, k ≤ n ∧ k ≤ m ∧ i = .int .i64 k ∧ cmpL ps qs = cmpL (ps.drop k) (qs.drop k)) (fun i => n - (intOf i).toNat)
  case atStart => exact ⟨0, Nat.zero_le _, Nat.zero_le _, rfl, rfl⟩
  case round =>
    obtain ⟨k, hk, hkm, rfl, he⟩ := hrel
    have HE := Lib.hid he
    clear he
    obtain ⟨hl, hl', hI, hI'⟩ := H.out
    by_cases hlt : k < n
    · by_cases hlm : k < m
      · obtain ⟨ad, rfl, _, hc⟩ := hI (by omega)
        obtain ⟨bd, rfl, _, hc'⟩ := hI' (by omega)
        obtain ⟨x, hx⟩ : ∃ x, ps[k]? = some x := ⟨_, List.getElem?_eq_getElem (by omega)⟩
        obtain ⟨y, hy⟩ : ∃ x, qs[k]? = some x := ⟨_, List.getElem?_eq_getElem (by omega)⟩
        have c1 := hc k x hx
        have c2 := hc' k y hy
        have HG := Lib.hid (cmpL_get hx hy)
        clear hl hl' hI hI' hc hc' hx hy
        go_wp2_with fail
        refine (cmp_any x y _).mono ?_
        rintro e w' ⟨rfl, rfl⟩
        by_cases hz : cmpI x y = 0
        · have HN : Hid (cmpL ps qs = cmpL (ps.drop (k + 1)) (qs.drop (k + 1))) := Lib.hid (by rw [HE.out, HG.out, if_pos hz])
          rw [hz]
          clear hz
          go_wp2_with fail
          go_round
          case rel => exact ⟨k + 1, by omega, by omega, by go_num, HN.out⟩
          case measure => simp [intOf]; omega
        · have HN : Hid (cmpL ps qs = cmpI x y) := Lib.hid (by rw [HE.out, HG.out, if_neg hz])
          have hb : (cmpI x y != 0) = true := by simpa using hz
          generalize cmpI x y = z at *
          clear hz
          go_wp2_with fail
          go_ret
          exact ⟨ret_int HN.out.symm, rfl⟩
      · have HN : Hid (cmpL ps qs = 1) := Lib.hid (by rw [HE.out, cmpL_left (by omega) (by omega)])
        obtain ⟨ad, rfl, _, hc⟩ := hI (by omega)
        obtain ⟨x, hx⟩ : ∃ x, ps[k]? = some x := ⟨_, List.getElem?_eq_getElem (by omega)⟩
        have c1 := hc k x hx
        clear hl hl' hI hI' hc hx
        go_wp2_with fail
        go_ret
        exact ⟨ret_int HN.out.symm, rfl⟩
    · obtain rfl : n = k := by omega
      by_cases hlm : n < m
      · have HN : Hid (cmpL ps qs = -1) := Lib.hid (by rw [HE.out, cmpL_right (by omega) (by omega)])
        clear hl hl' hI hI'
        go_wp2_with fail
        go_ret
        exact ⟨ret_int HN.out.symm, rfl⟩
      · have HN : Hid (cmpL ps qs = 0) := Lib.hid (by rw [HE.out, cmpL_end (by omega) (by omega)])
        clear hl hl' hI hI'
        go_wp2_with fail
        go_ret
        exact ⟨ret_int HN.out.symm, rfl⟩

/- Contract: slices.Clone of a division. -/

set_option maxHeartbeats 400000 in
theorem cloneD_any (A : Option Addr) (n cap : Nat) (xs : List Int) (w : World) (hl : xs.length = n) (hm : n ≤ 1000000000) (h : Ints w A xs) :
    Calls Try.prog 53 #[.slice A n cap] w fun e w' => ∃ A' c, e = .returned (.slice A' n c) ∧ w'.ownsRow w.heap.size 3 1 (.slice A' n c) n (xs.map (Value.int .i64)) ∧ Below w.heap.size w w' := by
  have qT : ∀ (w : World) (a : Option Addr) (n c n' c' : Nat), (binOp .eql 64 (.slice a n c) (.slice none n' c')).run Try.prog w = .ok (.bool a.isNone) w := fun w a n c n' c' => Lib.run_eql_slice_nil w _ _ a n c n' c' Try.underlying64
  obtain ⟨i0, hi, hz0, hz1, hz2⟩ := info_parts info_int
  rcases A with _ | ad
  · have h0 : xs = [] := by
      cases xs with
      | nil => rfl
      | cons x l => obtain ⟨ad, e, _⟩ := h 0 (.int .i64 x) rfl; cases e
    subst h0
    obtain rfl : n = 0 := by simpa using hl.symm
    clear h hl
    go_enter Try.func53, Try.ntmps53
    go_wp2
    go_ret
    exact ⟨none, 0, rfl, World.ownsRow_nil _ _ _ _, Below.refl _ _⟩
  · have HL := Lib.hid hl
    have HC := Lib.hid (At.some2 h)
    clear hl h
    go_enter Try.func53, Try.ntmps53
    go_wp2_with (at_builtin; refine wpList_append_own _ rfl _ _ 64 rfl w.heap.size 3 i0 (.int .i64 0) 1 8 Try.underlying64 hi hz0 hz1 hz2 rfl (by decide) _ 0 [] rfl (World.ownsRow_made w #[] 0 (Nat.le_refl _) (by decide) rfl) ad n cap (xs.map (Value.int .i64)) rfl ?c1 ?c2 ?c3 ?c4 ?c5 ?c6 ?_)
    case c1 => simpa using HL.out
    case c2 => exact At.new HC.out
    case c3 => exact ints_one xs
    case c4 => unfold maxLen; omega
    case c5 => omega
    case c6 => go_size
    intro v' w1 hown hgrow _
    obtain ⟨A', c, rfl, _⟩ := own_form hown
    go_wp2
    go_ret
    refine ⟨A', c, by simp, by simpa using hown, ?_⟩
    exact (((Below.refl _ _).alloc (Nat.le_refl _) _)).grown hgrow (by go_size) (by intro k hk; simp [Value.ownBlock] at hk; omega)

/- Contract: best of package split, for whatever score it is called with. -/

/-- The first of the first t divisions with the greatest score. -/
def bst (S : Nat → List Int) : Nat → Nat
  | 0 => 0
  | t + 1 => if t = 0 then 0 else if 0 < cmpL (S t) (S (bst S t)) then t else bst S t
theorem bst_lt (S : Nat → List Int) (t : Nat) (h : 0 < t) : bst S t < t := by
  induction t with
  | zero => omega
  | succ t ih =>
    simp only [bst]
    split
    · omega
    · split
      · omega
      · have := ih (by omega); omega

/-- What best works on. -/
structure SBX where
  w0 : World
  B : Nat
  n : Nat
  m : Nat
  K : FuncId
  caps : Array Value
  S : Nat → List Int
/-- The best so far. -/
def SBX.cur (X : SBX) (t : Nat) (w : World) : Prop :=
  (t = 0 → Blk w (X.B + 1) 64 #[.slice none 0 0] ∧ Blk w (X.B + 2) 23 #[.slice none 0 0]) ∧
  (0 < t → ∃ A c Am k cm, Blk w (X.B + 1) 64 #[.slice (some A) X.m c] ∧ X.m ≤ c ∧ c ≤ 9223372036854775807 ∧ Ints w (some A) (dz X.n X.m (bst X.S t)) ∧ X.B + 3 < A.block ∧
    Blk w (X.B + 2) 23 #[.slice Am k cm] ∧ k = (X.S (bst X.S t)).length ∧ k ≤ cm ∧ cm ≤ 9223372036854775807 ∧ Ints w Am (X.S (bst X.S t)) ∧ ∀ ad, Am = some ad → X.B + 3 < ad.block)
def SBX.inv (X : SBX) (t : Nat) (w : World) : Prop := Below X.B X.w0 w ∧ Blk w X.B 100 #[.func (.func X.K) #[] X.caps] ∧ X.cur t w

theorem ints_far {w : World} {A : Option Addr} {xs : List Int} (h : Ints w A xs) {p : Addr} (hp : ∀ ad, A = some ad → ad.block ≠ p.block) (v : Value) : Ints (w.setCell p v) A xs := by
  intro i u hu
  obtain ⟨ad, hA, hc⟩ := h i u hu
  refine ⟨ad, hA, ?_⟩
  rw [World.cell?_of_block (w := w) (Below.heap_setCell w p v _ (by rw [add_block]; exact hp ad hA))]
  exact hc
theorem SBX.cur_set {X : SBX} {t : Nat} {w : World} (h : X.cur t w) (i : Nat) (v : Value) : X.cur t (w.setCell ⟨X.B + 3, i, none⟩ v) := by
  refine ⟨fun h0 => ?_, fun h0 => ?_⟩
  · obtain ⟨h1, h2⟩ := h.1 h0
    exact ⟨h1.far (by show X.B + 1 ≠ X.B + 3; omega) _, h2.far (by show X.B + 2 ≠ X.B + 3; omega) _⟩
  · obtain ⟨A, c, Am, k, cm, h1, h1a, h1b, h2, h3, h4, h5, h5a, h5b, h6, h7⟩ := h.2 h0
    exact ⟨A, c, Am, k, cm, h1.far (by show X.B + 1 ≠ X.B + 3; omega) _, h1a, h1b, ints_far h2 (fun ad ha => by injection ha with ha; subst ha; show A.block ≠ X.B + 3; omega) _, h3, h4.far (by show X.B + 2 ≠ X.B + 3; omega) _, h5, h5a, h5b,
      ints_far h6 (fun ad ha => by have := h7 ad ha; show ad.block ≠ X.B + 3; omega) _, h7⟩
theorem SBX.inv_set {X : SBX} {t : Nat} {w : World} (h : X.inv t w) (i : Nat) (v : Value) : X.inv t (w.setCell ⟨X.B + 3, i, none⟩ v) :=
  ⟨h.1.setCell (by show X.B ≤ X.B + 3; omega) _, h.2.1.far (by show X.B ≠ X.B + 3; omega) _, SBX.cur_set h.2.2 i v⟩

/-- What the score answers. -/
def ScorePost (S : List Int) (w' : World) (e : Ending) (w'' : World) : Prop := ∃ A c, e = .returned (.slice A S.length c) ∧ w''.ownsRow w'.heap.size 3 1 (.slice A S.length c) S.length (S.map (Value.int .i64)) ∧ Below w'.heap.size w' w''

set_option maxRecDepth 100000 in
set_option maxHeartbeats 1600000 in
theorem best1_any (X : SBX) (hm7 : 1 ≤ X.m ∧ X.m ≤ 7) (hK : Ent X.K) (hS : ∀ t, (X.S t).length ≤ 1000) (t : Nat) (w : World)
    (hscore : Calls Try.prog X.K (#[.slice (some ⟨X.B + 3, 0, none⟩) X.m X.m] ++ X.caps) w (ScorePost (X.S t) w))
    (hinv : X.inv t w) (hD : Blk w (X.B + 3) 3 (arr (dz X.n X.m t))) :
    Calls Try.prog 101 #[.slice (some ⟨X.B + 3, 0, none⟩) X.m X.m, .pointer (some ⟨X.B, 0, none⟩), .pointer (some ⟨X.B + 1, 0, none⟩), .pointer (some ⟨X.B + 2, 0, none⟩)] w (EachPost X.inv (fun _ => False) X.n X.m t (X.B + 3)) := by
  have qT : ∀ (w : World) (a : Option Addr) (n c n' c' : Nat), (binOp .eql 64 (.slice a n c) (.slice none n' c')).run Try.prog w = .ok (.bool a.isNone) w := fun w a n c n' c' => Lib.run_eql_slice_nil w _ _ a n c n' c' Try.underlying64
  unfold Ent at hK
  obtain ⟨hbl, hof, hcur⟩ := hinv
  obtain ⟨o1, o2⟩ := hof.at1
  have hDw := hD.lt
  have HSC := Lib.hid hscore
  have H := Lib.hid (And.intro hbl (And.intro hof (And.intro hcur hD)))
  have HS := Lib.hid hS
  clear hbl hof hcur hD hscore hS
  go_enter Try.func101, Try.ntmps101
  go_wp2_with fail
  refine HSC.out.mono ?_
  rintro e w1 ⟨A1, c1, rfl, hown1, hb1⟩
  have hI1 : Ints w1 A1 (X.S t) := At.of_own hown1
  obtain ⟨_, _, he, hc11, hc12, _⟩ := own_form hown1
  injection he with e1 _ e3
  subst e1; subst e3
  have hA1 : ∀ ad, A1 = some ad → w.heap.size ≤ ad.block := by
    intro ad ha
    rcases hown1.2 with ⟨h, _⟩ | ⟨g, cap, cur, hv, hg, _⟩
    · rw [ha] at h; cases h
    · injection hv with h1
      rw [ha] at h1
      injection h1 with h1
      rw [h1]; exact hg
  obtain ⟨k1, hk1⟩ : ∃ k, k = (X.S t).length := ⟨_, rfl⟩
  have hk1b : k1 ≤ 1000 := by rw [hk1]; exact HS.out t
  rw [← hk1] at hc11 ⊢
  have hw1 := hb1.size
  have hD1 := H.out.2.2.2.below hb1 hDw
  have hID : Ints w1 (some ⟨X.B + 3, 0, none⟩) (dz X.n X.m t) := blk_ints hD1
  have hof1 := H.out.2.1.below hb1 (by omega)
  have hbl1 : Below X.B X.w0 w1 := H.out.1.trans (hb1.mono (by omega))
  have H1 := Lib.hid (And.intro hI1 (And.intro hb1 (And.intro hD1 (And.intro hof1 (And.intro hbl1 (And.intro hA1 (And.intro hk1 hID)))))))
  clear hown1 hI1 hb1 hD1 hof1 hbl1 hA1 hk1 hID
  -- what is left behind the two stores
  have fin : ∀ (w2 : World) (A2 : Addr) (c2 : Nat) (w5 : World), bst X.S (t + 1) = t → Below w1.heap.size w1 w2 → Ints w2 (some A2) (dz X.n X.m t) → w1.heap.size ≤ A2.block → X.m ≤ c2 → c2 ≤ 9223372036854775807 →
      Blk w2 (X.B + 1) 64 #[.slice none 0 0] ∧ Blk w2 (X.B + 2) 23 #[.slice none 0 0] ∨ (∃ v1 v2, Blk w2 (X.B + 1) 64 #[v1] ∧ Blk w2 (X.B + 2) 23 #[v2]) →
      w5 = (w2.setCell ⟨X.B + 1, 0, none⟩ (.slice (some A2) X.m c2)).setCell ⟨X.B + 2, 0, none⟩ (.slice A1 k1 c1) →
      X.inv (t + 1) w5 ∧ Blk w5 (X.B + 3) 3 (arr (dz X.n X.m t)) := by
    intro w2 A2 c2 w5 hbst hb2 hI2 hA2 hc21 hc22 hout hw5
    obtain ⟨hI1, hb1, hD1, hof1, hbl1, hA1, hk1, hID⟩ := H1.out
    have ho : ∃ v1 v2, Blk w2 (X.B + 1) 64 #[v1] ∧ Blk w2 (X.B + 2) 23 #[v2] := by
      rcases hout with ⟨h1, h2⟩ | h
      · exact ⟨_, _, h1, h2⟩
      · exact h
    obtain ⟨v1, v2, g1, g2⟩ := ho
    have q1 : Blk w5 (X.B + 1) 64 #[.slice (some A2) X.m c2] := by
      rw [hw5]; exact (g1.set_ 0 _).far (by show X.B + 1 ≠ X.B + 2; omega) _
    have q2 : Blk w5 (X.B + 2) 23 #[.slice A1 k1 c1] := by
      rw [hw5]; exact (g2.far (by show X.B + 2 ≠ X.B + 1; omega) _).set_ 0 _
    refine ⟨⟨?_, ?_, ?_⟩, ?_⟩
    · rw [hw5]; exact ((hbl1.trans (hb2.mono (by omega))).setCell (by show X.B ≤ X.B + 1; omega) _).setCell (by show X.B ≤ X.B + 2; omega) _
    · rw [hw5]; exact ((hof1.below hb2 (by omega)).far (by show X.B ≠ X.B + 1; omega) _).far (by show X.B ≠ X.B + 2; omega) _
    · refine ⟨fun h => by omega, fun _ => ?_⟩
      rw [hbst]
      refine ⟨A2, c2, A1, k1, c1, q1, hc21, hc22, ?_, by omega, q2, hk1, hc11, hc12, ?_, fun ad ha => by have := hA1 ad ha; omega⟩
      · rw [hw5]
        refine ints_far (ints_far hI2 (fun ad ha => ?_) _) (fun ad ha => ?_) _
        · injection ha with ha; subst ha; show A2.block ≠ X.B + 1; omega
        · injection ha with ha; subst ha; show A2.block ≠ X.B + 2; omega
      · rw [hw5]
        refine ints_far (ints_far (hI1.below hb2) (fun ad ha => ?_) _) (fun ad ha => ?_) _
        · have := hA1 ad ha; show ad.block ≠ X.B + 1; omega
        · have := hA1 ad ha; show ad.block ≠ X.B + 2; omega
    · rw [hw5]
      exact ((hD1.below hb2 (by omega)).far (by show X.B + 3 ≠ X.B + 1; omega) _).far (by show X.B + 3 ≠ X.B + 2; omega) _
  have FIN := Lib.hid fin
  clear fin
  by_cases h0 : t = 0
  · obtain ⟨g1, g2⟩ := H.out.2.2.1.1 h0
    have g1' := g1.below H1.out.2.1 (by omega)
    have g2' := g2.below H1.out.2.1 (by omega)
    obtain ⟨p1, p2⟩ := g1'.at1
    have HP := Lib.hid (And.intro g1' g2')
    have hBst : Hid (bst X.S (t + 1) = t) := Lib.hid (by rw [h0]; simp [bst])
    clear g1 g2 g1' g2' h0
    go_wp2_with fail
    refine (cloneD_any (some ⟨X.B + 3, 0, none⟩) X.m X.m (dz X.n X.m t) _ (by rw [dz_length]) (by omega) H1.out.2.2.2.2.2.2.2).mono ?_
    rintro e w2 ⟨A2, c2, rfl, hown2, hb2⟩
    have hI2 : Ints w2 A2 (dz X.n X.m t) := At.of_own hown2
    obtain ⟨g, rfl, hg, _⟩ := own_some hown2 (by omega)
    obtain ⟨_, _, he2, hc21, hc22, _⟩ := own_form hown2
    injection he2 with e4 _ e5
    subst e4
    subst e5
    have g1 := HP.out.1.below hb2 (by omega)
    have g2 := HP.out.2.below hb2 (by omega)
    obtain ⟨p3, p4⟩ := g1.at1
    obtain ⟨p5, p6⟩ := g2.at1
    have H2 := Lib.hid (FIN.out w2 ⟨g, 0, none⟩ c2 _ hBst.out hb2 hI2 hg hc21 hc22 (.inl ⟨g1, g2⟩) rfl)
    clear hown2 hI2 g1 g2 hb2 p1 p2
    go_wp2_with fail
    go_ret
    exact .inl ⟨rfl, H2.out⟩
  · obtain ⟨A, c, Am, k, cm, h1, h1a, h1b, h2, h3, h4, h5, h5a, h5b, h6, h7⟩ := H.out.2.2.1.2 (by omega)
    have g1' := h1.below H1.out.2.1 (by omega)
    have g2' := h4.below H1.out.2.1 (by omega)
    obtain ⟨p1, p2⟩ := g1'.at1
    obtain ⟨p3, p4⟩ := g2'.at1
    have hkb : k ≤ 1000 := by rw [h5]; exact HS.out _
    have hstep : bst X.S (t + 1) = if 0 < cmpL (X.S t) (X.S (bst X.S t)) then t else bst X.S t := by rw [bst, if_neg h0]
    have HP := Lib.hid (And.intro g1' (And.intro g2' (And.intro (h2.below H1.out.2.1) (And.intro (h6.below H1.out.2.1) (And.intro h5 (And.intro h7 hstep))))))
    clear h1 h2 h4 h5 h6 h7 g1' g2' hstep
    go_wp2_with fail
    refine (compare_any A1 Am k1 k c1 cm (X.S t) (X.S (bst X.S t)) _ H1.out.2.2.2.2.2.2.1.symm HP.out.2.2.2.2.1.symm hk1b hkb H1.out.1 HP.out.2.2.2.1).mono ?_
    rintro e w' ⟨rfl, rfl⟩
    have hcb := cmpL_bd (X.S t) (X.S (bst X.S t))
    have hst2 := HP.out.2.2.2.2.2.2
    obtain ⟨cv, hcv⟩ : ∃ cv, cv = cmpL (X.S t) (X.S (bst X.S t)) := ⟨_, rfl⟩
    rw [← hcv] at hcb hst2 ⊢
    have HST := Lib.hid hst2
    clear hst2 hcv
    by_cases hgt : 0 < cv
    · have hBst : Hid (bst X.S (t + 1) = t) := Lib.hid (by rw [HST.out, if_pos hgt])
      go_wp2_with fail
      refine (cloneD_any (some ⟨X.B + 3, 0, none⟩) X.m X.m (dz X.n X.m t) _ (by rw [dz_length]) (by omega) H1.out.2.2.2.2.2.2.2).mono ?_
      rintro e w2 ⟨A2, c2, rfl, hown2, hb2⟩
      have hI2 : Ints w2 A2 (dz X.n X.m t) := At.of_own hown2
      obtain ⟨g, rfl, hg, _⟩ := own_some hown2 (by omega)
      obtain ⟨_, _, he2, hc21, hc22, _⟩ := own_form hown2
      injection he2 with e4 _ e5
      subst e4
      subst e5
      have g1 := HP.out.1.below hb2 (by omega)
      have g2 := HP.out.2.1.below hb2 (by omega)
      clear p1 p2 p3 p4
      obtain ⟨p3, p4⟩ := g1.at1
      obtain ⟨p5, p6⟩ := g2.at1
      have H2 := Lib.hid (FIN.out w2 ⟨g, 0, none⟩ c2 _ hBst.out hb2 hI2 hg hc21 hc22 (.inr ⟨_, _, g1, g2⟩) rfl)
      clear hown2 hI2 g1 g2 hb2
      go_wp2_with fail
      go_ret
      exact .inl ⟨rfl, H2.out⟩
    · have hBst : Hid (bst X.S (t + 1) = bst X.S t) := Lib.hid (by rw [HST.out, if_neg hgt])
      go_wp2_with fail
      go_ret
      refine .inl ⟨rfl, ⟨H1.out.2.2.2.2.1, H1.out.2.2.2.1, ⟨fun h => by omega, fun _ => ?_⟩⟩, H1.out.2.2.1⟩
      rw [hBst.out]
      exact ⟨A, c, Am, k, cm, HP.out.1, h1a, h1b, HP.out.2.2.1, h3, HP.out.2.1, HP.out.2.2.2.2.1, h5a, h5b, HP.out.2.2.2.1, HP.out.2.2.2.2.2.1⟩

theorem ent_best1 : Ent 101 := ent_of Try.func101 (by kernel_rfl) (by kernel_rfl)

/-- What best leaves. -/
def BestPost (n m : Nat) (S : Nat → List Int) (b : Nat) (w : World) (e : Ending) (w' : World) : Prop :=
  ∃ A c Am cm, e = .returned (.tuple #[.slice (some A) m c, .slice Am (S b).length cm]) ∧ m ≤ c ∧ c ≤ 9223372036854775807 ∧ Ints w' (some A) (dz n m b) ∧ (S b).length ≤ cm ∧ cm ≤ 9223372036854775807 ∧ Ints w' Am (S b) ∧ Below w.heap.size w w'

set_option maxRecDepth 100000 in
set_option maxHeartbeats 1600000 in
theorem best_any (A : Option Addr) (n cap m : Nat) (V : List (List Int)) (K2 : FuncId) (caps2 : Array Value) (S : Nat → List Int) (w : World) (hK : Ent K2) (hS : ∀ t, (S t).length ≤ 1000)
    (hl : V.length = n) (hn : 1 ≤ n ∧ n ≤ 4) (hm : m = (rowV V 0).length) (hm7 : 1 ≤ m ∧ m ≤ 7) (hV : Mat w A V)
    (hscore : ∀ t w', t < n ^ m → Below w.heap.size w w' → Blk w' (w.heap.size + 3) 3 (arr (dz n m t)) → Calls Try.prog K2 (#[.slice (some ⟨w.heap.size + 3, 0, none⟩) m m] ++ caps2) w' (ScorePost (S t) w')) :
    Calls Try.prog 76 #[.slice A n cap, .func (.func K2) #[] caps2] w (BestPost n m S (bst S (n ^ m)) w) := by
  have H := Lib.hid (And.intro hK (And.intro hS (And.intro hl (And.intro hm (And.intro hV hscore)))))
  clear hK hS hl hm hV hscore
  go_enter Try.func76, Try.ntmps76
  go_wp2_with fail
  obtain ⟨hK, hS, hl, hm, hV, hscore⟩ := H.out
  obtain ⟨X, hX⟩ : ∃ X : SBX, X = { w0 := w, B := w.heap.size, n := n, m := m, K := K2, caps := caps2, S := S } := ⟨_, rfl⟩
  have e1 : X.B = w.heap.size := by rw [hX]
  have hb3 : ∀ o1 o2 o3, Below w.heap.size w (((w.alloc o1).alloc o2).alloc o3) := fun o1 o2 o3 => (((Below.refl _ _).alloc (by go_size) _).alloc (by go_size) _).alloc (by go_size) _
  have hz : ∀ o1 o2 o3 : Obj, (((w.alloc o1).alloc o2).alloc o3).heap.size = w.heap.size + 3 := fun o1 o2 o3 => by simp
  refine (each_any 101 #[.pointer (some ⟨w.heap.size, 0, none⟩), .pointer (some ⟨w.heap.size + 1, 0, none⟩), .pointer (some ⟨w.heap.size + 1 + 1, 0, none⟩)] A n cap m V _ X.inv (fun _ => False) ent_best1 hl hn hm hm7 (hV.below (hb3 _ _ _)) ?hst ?hset ?hcall).mono ?_
  case hst =>
    have b1 : Blk ((((w.alloc (.cells #[.func (.func K2) #[] caps2] 100)).alloc (.cells #[.slice none 0 0] 64)).alloc (.cells #[.slice none 0 0] 23)).alloc (.cells (arr (List.replicate m 0)) 3)) w.heap.size 100 #[.func (.func K2) #[] caps2] := (((Blk.new _ _ _ rfl).alloc _).alloc _).alloc _
    have b2 : Blk ((((w.alloc (.cells #[.func (.func K2) #[] caps2] 100)).alloc (.cells #[.slice none 0 0] 64)).alloc (.cells #[.slice none 0 0] 23)).alloc (.cells (arr (List.replicate m 0)) 3)) (w.heap.size + 1) 64 #[.slice none 0 0] := ((Blk.new _ _ _ (by simp)).alloc _).alloc _
    have b3 : Blk ((((w.alloc (.cells #[.func (.func K2) #[] caps2] 100)).alloc (.cells #[.slice none 0 0] 64)).alloc (.cells #[.slice none 0 0] 23)).alloc (.cells (arr (List.replicate m 0)) 3)) (w.heap.size + 2) 23 #[.slice none 0 0] := (Blk.new _ _ _ (by simp)).alloc _
    rw [hX]
    exact ⟨(hb3 _ _ _).alloc (by simp; omega) _, b1, fun _ => ⟨b2, b3⟩, fun h => by omega⟩
  case hset =>
    intro t w' i v h
    rw [hz]
    have := SBX.inv_set h i v
    rwa [e1] at this
  case hcall =>
    intro t w' ht hinv hB
    rw [hz] at hB ⊢
    have hsc := hscore t w' ht (by have h := hinv.1; rw [hX] at h; exact h) hB
    have h := best1_any X (by rw [hX]; exact hm7) (by rw [hX]; exact hK) (by rw [hX]; exact hS) t w' (by rw [hX]; exact hsc) hinv (by rw [hX]; exact hB)
    rw [hX] at h ⊢
    exact h
  rintro e w' ⟨rfl, hi | hi⟩
  · have hpos : 0 < n ^ m := Nat.pow_pos (by omega)
    have hc := hi.2.2.2 hpos
    have hbl := hi.1
    rw [hX] at hc hbl
    obtain ⟨A', c, Am, k, cm, h1, h1a, h1b, h2, h3, h4, h5, h5a, h5b, h6, h7⟩ := hc
    obtain ⟨p1, p2⟩ := h1.at1
    obtain ⟨p3, p4⟩ := h4.at1
    simp only at p1 p2 p3 p4 h1a h5 h5a
    have HF := Lib.hid (And.intro h2 (And.intro h6 (And.intro hbl (And.intro h5 (And.intro h1a h5a)))))
    clear h1 h2 h3 h4 h5 h6 h7 hbl hi hz hb3 hK hS hl hm hV hscore hX e1 h1a h5a
    go_wp2_with fail
    go_quiet (fail)
    go_wp2_with fail
    go_ret2
    refine ⟨A', c, Am, cm, by rw [← HF.out.2.2.2.1]; rfl, HF.out.2.2.2.2.1, h1b, HF.out.1, by rw [← HF.out.2.2.2.1]; exact HF.out.2.2.2.2.2, h5b, HF.out.2.1, below_drewN HF.out.2.2.1 _⟩
  · exact hi.elim

/- Contract: the score of Nash (package split): how many people have something, and the product of what they have. -/

/-- How many of the list are above 0, and their product. -/
def posN : List Int → Int
  | [] => 0
  | x :: l => posN l + if 0 < x then 1 else 0
def posP : List Int → Int
  | [] => 1
  | x :: l => posP l * if 0 < x then x else 1
theorem posN_snoc (l : List Int) (x : Int) : posN (l ++ [x]) = posN l + if 0 < x then 1 else 0 := by
  induction l with
  | nil => simp [posN]
  | cons y l ih => simp only [List.cons_append, posN, ih]; omega
theorem posP_snoc (l : List Int) (x : Int) : posP (l ++ [x]) = posP l * if 0 < x then x else 1 := by
  induction l with
  | nil => simp [posP]
  | cons y l ih => simp only [List.cons_append, posP, ih]; exact Int.mul_right_comm _ _ _
theorem posN_take {l : List Int} {k : Nat} {x : Int} (h : l[k]? = some x) : posN (l.take (k + 1)) = posN (l.take k) + if 0 < x then 1 else 0 := by
  rw [List.take_add_one, h]; exact posN_snoc _ _
theorem posP_take {l : List Int} {k : Nat} {x : Int} (h : l[k]? = some x) : posP (l.take (k + 1)) = posP (l.take k) * if 0 < x then x else 1 := by
  rw [List.take_add_one, h]; exact posP_snoc _ _
theorem posN_bd (l : List Int) : 0 ≤ posN l ∧ posN l ≤ l.length := by
  induction l with
  | nil => simp [posN]
  | cons y l ih => simp only [posN, List.length_cons]; split <;> omega
theorem posP_bd (l : List Int) (h : ∀ x ∈ l, x ≤ 1000) : 1 ≤ posP l ∧ posP l ≤ 1000 ^ l.length := by
  induction l with
  | nil => simp [posP]
  | cons y l ih =>
    obtain ⟨a, b⟩ := ih fun x hx => h x (List.mem_cons_of_mem _ hx)
    have hy := h y (List.mem_cons_self ..)
    simp only [posP, List.length_cons]
    split
    · refine ⟨Int.le_trans (by omega) (Int.mul_le_mul a (show (1 : Int) ≤ y by omega) (by omega) (by omega)), ?_⟩
      rw [Int.pow_succ]
      exact Int.mul_le_mul b hy (by omega) (Int.pow_nonneg (by omega))
    · rw [Int.mul_one, Int.pow_succ]
      refine ⟨a, Int.le_trans b ?_⟩
      have : (0 : Int) ≤ 1000 ^ l.length := Int.pow_nonneg (by omega)
      omega

/-- The score of Nash. -/
def nashS (V : List (List Int)) (d : List Int) (n : Nat) : List Int := [posN (ownV V d n), posP (ownV V d n)]

theorem own_bd {V : List (List Int)} {d : List Int} {n : Nat} (hr : ∀ i, i < n → (rowV V i).length = d.length ∧ ∀ x ∈ rowV V i, 0 ≤ x ∧ x ≤ 100) (hd : d.length ≤ 7) : ∀ x ∈ ownV V d n, 0 ≤ x ∧ x ≤ 1000 := by
  intro x hx
  obtain ⟨i, hi, rfl⟩ := List.mem_map.1 hx
  have h := worTo_bd (hr i (List.mem_range.1 hi)).2 d (i : Int) d.length
  unfold wor
  omega

theorem own_new {w : World} (e : TypeId) (cs : Array Value) (h : cs.size ≤ maxLen) : (w.alloc (.cells cs e)).ownsRow w.heap.size e 1 (.slice (some ⟨w.heap.size, 0, none⟩) cs.size cs.size) cs.size cs.toList :=
  ⟨by simp, .inr ⟨w.heap.size, cs.size, cs, rfl, Nat.le_refl _, Blk.new w e cs rfl, Nat.le_refl _, h, by simp, by rw [List.take_of_length_le (by simp)]⟩⟩

set_option maxRecDepth 100000 in
set_option maxHeartbeats 1600000 in
theorem nash1_any (A : Option Addr) (n cap : Nat) (D : Option Addr) (m capd Bv : Nat) (V : List (List Int)) (d : List Int) (w : World) (hv : w.cell? ⟨Bv, 0, none⟩ = some (.slice A n cap)) (hl : V.length = n) (hn : n ≤ 4) (hld : d.length = m) (hm : m ≤ 7)
    (hr : ∀ i, i < n → (rowV V i).length = m ∧ ∀ x ∈ rowV V i, 0 ≤ x ∧ x ≤ 100) (hV : Mat w A V) (hD : Ints w D d) :
    Calls Try.prog 77 #[.slice D m capd, .pointer (some ⟨Bv, 0, none⟩)] w (ScorePost (nashS V d n) w) := by
  have H := Lib.hid (And.intro hl (And.intro hld (And.intro hr (And.intro hV hD))))
  have HB := Lib.hid (own_bd (V := V) (d := d) (n := n) (by rw [hld]; exact hr) (by omega))
  clear hl hld hr hV hD
  go_enter Try.func77, Try.ntmps77
  go_wp2_with fail
  refine (own_any A n cap D m capd V d _ H.out.1 (by omega) H.out.2.1 (by omega) H.out.2.2.1 H.out.2.2.2.1 H.out.2.2.2.2).mono ?_
  rintro e w1 ⟨A1, c1, rfl, hown, hb⟩
  have hI : Ints w1 A1 (ownV V d n) := At.of_own hown
  obtain ⟨o, ho⟩ : ∃ o, o = ownV V d n := ⟨_, rfl⟩
  have hol : o.length = n := by rw [ho, ownV_length]
  rw [← ho] at hI
  have HO := Lib.hid ho
  have HB' : Hid (∀ x ∈ o, 0 ≤ x ∧ x ≤ 1000) := Lib.hid (by rw [ho]; exact HB.out)
  have HI := Lib.hid (And.intro hI (And.intro hb hol))
  have hz := hb.size
  clear hown hI hb ho hol HB H
  go_wp2_with fail
  go_loop [4, 5, 12] (fun cv pv i => ∃ k : Nat, k ≤ n ∧ i = .int .i64 k ∧ cv = .int .i64 (posN (o.take k)) ∧ pv = .int .i64 (posP (o.take k))) (fun _ _ i => n - (intOf i).toNat)
  case atStart => exact ⟨0, Nat.zero_le _, rfl, rfl, rfl⟩
  case round =>
    obtain ⟨k, hk, rfl, rfl, rfl⟩ := hrel
    by_cases hlt : k < n
    · obtain ⟨x, hx⟩ : ∃ x, o[k]? = some x := ⟨_, List.getElem?_eq_getElem (by have := HI.out.2.2; omega)⟩
      obtain ⟨ad, rfl, hc⟩ := HI.out.1 k (.int .i64 x) (by rw [List.getElem?_map, hx]; rfl)
      have hx1 := HB'.out x (List.mem_of_getElem? hx)
      have hnb := posN_bd (o.take k)
      have hpb := posP_bd (o.take k) (fun x hx => (HB'.out x (List.mem_of_mem_take hx)).2)
      have hlen : (o.take k).length = k := by rw [List.length_take]; have := HI.out.2.2; omega
      rw [hlen] at hnb hpb
      have hpb2 : posP (o.take k) ≤ 1000000000 := by
        have : k ≤ 3 := by omega
        have h2 : ((1000 : Int) ^ k) ≤ 1000000000 := by
          have hk3 : k = 0 ∨ k = 1 ∨ k = 2 ∨ k = 3 := by omega
          rcases hk3 with rfl | rfl | rfl | rfl <;> decide
        omega
      have HN := Lib.hid (posN_take hx)
      have HP := Lib.hid (posP_take hx)
      generalize posN (o.take k) = cn at *
      generalize posP (o.take k) = pp at *
      have hmul : 0 ≤ pp * x ∧ pp * x ≤ 1000000000000 := ⟨Int.mul_nonneg (by omega) hx1.1, Int.le_trans (Int.mul_le_mul hpb2 hx1.2 hx1.1 (by omega)) (by omega)⟩
      have l1 : (k : Int) < (n : Int) := by omega
      clear hx hlen
      by_cases hpos : 0 < x
      · rw [if_pos hpos] at HN HP
        go_wp2_with fail
        go_round
        case rel => exact ⟨k + 1, by omega, by go_num, by rw [HN.out], by rw [HP.out]⟩
        case measure => simp [intOf]; omega
      · rw [if_neg hpos] at HN HP
        go_wp2_with fail
        go_round
        case rel => exact ⟨k + 1, by omega, by go_num, by rw [HN.out, Int.add_zero], by rw [HP.out, Int.mul_one]⟩
        case measure => simp [intOf]; omega
    · obtain rfl : n = k := by omega
      have HT : Hid (o.take n = o) := Lib.hid (List.take_of_length_le (by have := HI.out.2.2; omega))
      go_wp2_with fail
      go_ret
      rw [HT.out]
      unfold ScorePost nashS
      rw [← HO.out]
      exact ⟨_, 2, rfl, own_mono (own_new (w := w1) 3 #[.int .i64 (posN o), .int .i64 (posP o)] (show 2 ≤ maxLen by decide)) hz, HI.out.2.1.alloc hz _⟩

/- All divisions, as the reference makes them; contract of Divisions. -/

/-- Each person below i ahead of each list. -/
def divsTo (L : List (List Int)) (i : Nat) : List (List Int) := (List.range i).flatMap fun j : Nat => L.map (List.cons (j : Int))
def divs (n : Nat) : Nat → List (List Int)
  | 0 => [[]]
  | m + 1 => divsTo (divs n m) n
theorem divsTo_succ (L : List (List Int)) (i : Nat) : divsTo L (i + 1) = divsTo L i ++ L.map (List.cons (i : Int)) := by
  simp [divsTo, List.range_succ, List.flatMap_append]
theorem divsTo_length (L : List (List Int)) (i : Nat) : (divsTo L i).length = i * L.length := by
  induction i with
  | zero => simp [divsTo]
  | succ i ih => rw [divsTo_succ, List.length_append, ih, List.length_map, Nat.add_mul, Nat.one_mul]
theorem divs_length (n m : Nat) : (divs n m).length = n ^ m := by
  induction m with
  | zero => rfl
  | succ m ih => rw [divs, divsTo_length, ih, Nat.pow_succ, Nat.mul_comm]
theorem divs_mem {n m : Nat} {l : List Int} (h : l ∈ divs n m) : l.length = m := by
  induction m generalizing l with
  | zero => simp [divs] at h; subst h; rfl
  | succ m ih =>
    simp only [divs, divsTo, List.mem_flatMap, List.mem_map] at h
    obtain ⟨j, _, x, hx, rfl⟩ := h
    simp [ih hx]
theorem dig_head {n : Nat} (hn : 0 < n) (m : Nat) : ∀ (i t : Nat), i < n → t < n ^ m → dig n (m + 1) (i * n ^ m + t) = i :: dig n m t := by
  induction m with
  | zero =>
    intro i t hi ht
    obtain rfl : t = 0 := by simpa using ht
    simp [dig, Nat.mod_eq_of_lt hi]
  | succ m ih =>
    intro i t hi ht
    have e1 : (i * n ^ (m + 1) + t) / n = i * n ^ m + t / n := by
      rw [Nat.pow_succ, ← Nat.mul_assoc, Nat.mul_comm _ n, Nat.mul_add_div hn]
    have e2 : (i * n ^ (m + 1) + t) % n = t % n := by
      rw [Nat.pow_succ, ← Nat.mul_assoc, Nat.mul_comm _ n, Nat.mul_add_mod]
    have h3 : t / n < n ^ m := by rw [Nat.div_lt_iff_lt_mul hn, ← Nat.pow_succ]; exact ht
    rw [show dig n (m + 1 + 1) (i * n ^ (m + 1) + t) = dig n (m + 1) ((i * n ^ (m + 1) + t) / n) ++ [(i * n ^ (m + 1) + t) % n] from rfl, e1, e2, ih i (t / n) hi h3]
    rfl
theorem divs_eq {n : Nat} (hn : 0 < n) (m : Nat) : divs n m = (List.range (n ^ m)).map (dz n m) := by
  induction m with
  | zero => rfl
  | succ m ih =>
    have key : ∀ i, i ≤ n → divsTo (divs n m) i = (List.range (i * n ^ m)).map (dz n (m + 1)) := by
      intro i
      induction i with
      | zero => intro _; simp [divsTo]
      | succ i ih2 =>
        intro hi
        rw [divsTo_succ, ih2 (by omega), Nat.add_mul, Nat.one_mul, List.range_add, List.map_append, ih, List.map_map, List.map_map]
        congr 1
        apply List.map_congr_left
        intro t ht
        show _ = dz n (m + 1) (i * n ^ m + t)
        unfold dz
        rw [dig_head hn m i t (by omega) (List.mem_range.1 ht)]
        rfl
    rw [divs, key n (Nat.le_refl _), Nat.pow_succ, Nat.mul_comm]
theorem divs_small {n m : Nat} (hn : n ≤ 4) (hm : m ≤ 7) : n ^ m ≤ 16384 :=
  Nat.le_trans (Nat.pow_le_pow_left hn m) (Nat.le_trans (Nat.pow_le_pow_right (by omega) hm) (by decide))

/-- Slices of nil are empty. -/
def NoneZ (vs : List Value) : Prop := ∀ v ∈ vs, ∀ n c, v = .slice none n c → n = 0 ∧ c = 0
theorem NoneZ.snoc {vs : List Value} {A : Addr} {n c : Nat} (h : NoneZ vs) : NoneZ (vs ++ [.slice (some A) n c]) := by
  intro v hv n' c' he
  rcases List.mem_append.1 hv with hv | hv
  · exact h v hv n' c' he
  · rw [List.mem_singleton.1 hv] at he; cases he

/-- What Divisions leaves. -/
def DivPost (L : List (List Int)) (w : World) (e : Ending) (w' : World) : Prop :=
  ∃ A c vs, e = .returned (.slice A L.length c) ∧ w'.ownsRow w.heap.size 23 1 (.slice A L.length c) L.length vs ∧ Rows w' 0 vs L ∧ NoneZ vs ∧ Below w.heap.size w w'

set_option maxRecDepth 100000 in
set_option maxHeartbeats 1600000 in
theorem divisions_any (n : Nat) (hn : 1 ≤ n ∧ n ≤ 4) (m : Nat) : ∀ (w : World), m ≤ 7 →
    Calls Try.prog 55 #[.int .i64 n, .int .i64 m] w (DivPost (divs n m) w) := by
  induction m with
  | zero =>
    intro w _
    go_enter Try.func55, Try.ntmps55
    go_wp2_with fail
    go_ret
    refine ⟨_, 1, [.slice none 0 0], rfl, own_new (w := w) 23 #[.slice none 0 0] (show 1 ≤ maxLen by decide), Rows.one_ ⟨none, 0, rfl, Nat.le_refl _, by omega, (fun j u h => by simp at h), fun ad h => by cases h⟩, (fun v hv n c he => by rw [List.mem_singleton.1 hv] at he; injection he with _ h1 h2; exact ⟨h1.symm, h2.symm⟩), (Below.refl _ _).alloc (Nat.le_refl _) _⟩
  | succ m ih =>
    intro w hm
    have IH := Lib.hid ih
    have hps := divs_small hn.2 (show m ≤ 7 by omega)
    rw [← divs_length] at hps
    have hmem := fun l => @divs_mem n m l
    obtain ⟨L, hL⟩ : ∃ L, L = divs n m := ⟨_, rfl⟩
    have hpos : 0 < L.length := by rw [hL, divs_length]; exact Nat.pow_pos (by omega)
    rw [show divs n (m + 1) = divsTo (divs n m) n from rfl, ← hL]
    rw [← hL] at hps hmem
    have HL := Lib.hid (And.intro hL hmem)
    clear ih hL hmem
    have hne : (((m + 1 : Nat) : Int) == 0) = false := by rw [beq_eq_false_iff_ne]; omega
    have hm1 : ((m + 1 : Nat) : Int) - 1 = (m : Int) := by omega
    obtain ⟨M, hM⟩ : ∃ M : Nat, M = m + 1 := ⟨_, rfl⟩
    rw [← hM] at hne hm1 ⊢
    have HM := Lib.hid hM
    have hM7 : M ≤ 7 := by omega
    clear hM
    go_enter Try.func55, Try.ntmps55
    go_wp2_with fail
    go_loopw [5, 13] (fun ov iv wr => ∃ (i : Nat) (B : Option Addr) (q bc : Nat) (vs : List Value), i ≤ n ∧ iv = .int .i64 i ∧ ov = .slice B q bc ∧ q = (divsTo L i).length ∧ wr.ownsRow w.heap.size 23 1 (.slice B q bc) q vs ∧ Rows wr 0 vs (divsTo L i) ∧ Below w.heap.size w wr ∧ NoneZ vs) (fun _ iv _ => n - (intOf iv).toNat)
    case atStart => exact ⟨0, none, 0, 0, [], Nat.zero_le _, rfl, rfl, rfl, World.ownsRow_nil _ _ _ _, Rows.nil, Below.refl _ _, fun v hv => by cases hv⟩
    case round =>
      obtain ⟨i, B, q, bc, vs, hi, rfl, rfl, hq, hown, hrows, hbl, hnz⟩ := hrel
      have HNZ := Lib.hid hnz
      clear hnz
      obtain ⟨wo, rfl⟩ : ∃ wo : World, wo = wr := ⟨_, rfl⟩
      have HR := Lib.hid (And.intro hown (And.intro hrows (And.intro hbl hq)))
      have hwsz := hbl.size
      clear hown hrows hbl hq
      by_cases hlt : i < n
      · go_wp2_with fail
        refine (IH.out _ (by omega)).mono ?_
        rw [← HL.out.1]
        rintro e w4 ⟨A4, c4, vs4, rfl, hown4, hrows4, hnz4, hbl4⟩
        have HNZ4 := Lib.hid hnz4
        clear hnz4
        obtain ⟨g4, rfl, hg4, hg4b⟩ := own_some hown4 hpos
        obtain ⟨ql, hql⟩ : ∃ ql, ql = L.length := ⟨_, rfl⟩
        have hps2 : ql ≤ 16384 := by rw [hql]; exact hps
        have hpos2 : 0 < ql := by rw [hql]; exact hpos
        have hat4 : At w4 (some ⟨g4, 0, none⟩) vs4 := At.of_own hown4
        have hw4 := hbl4.size
        have hsep : ∀ ad, B = some ad → ad.block ≠ g4 := by
          intro ad had
          have := (HR.out.1.lt ad.block (by rw [had]; rfl)).2
          omega
        have H4 := Lib.hid (And.intro hat4 (And.intro hrows4 (And.intro (own_below HR.out.1 hbl4) (And.intro (HR.out.2.1.below hbl4) (And.intro (HR.out.2.2.1.trans (hbl4.mono hwsz)) (And.intro hsep hql))))))
        rw [← hql]
        clear hown4 hrows4 hbl4 hat4 hsep hql
        go_wp2_with fail
        go_loopw [5, 21] (fun ov jv wr => ∃ (j : Nat) (B : Option Addr) (q bc : Nat) (vs : List Value), j ≤ ql ∧ jv = .int .i64 j ∧ ov = .slice B q bc ∧ q = (divsTo L i).length + j ∧ wr.ownsRow w.heap.size 23 1 (.slice B q bc) q vs ∧ Rows wr 0 vs (divsTo L i ++ (L.take j).map (List.cons (i : Int))) ∧ Below w.heap.size w wr ∧ At wr (some ⟨g4, 0, none⟩) vs4 ∧ Rows wr 0 vs4 L ∧ (∀ ad, B = some ad → ad.block ≠ g4) ∧ NoneZ vs) (fun _ jv _ => ql - (intOf jv).toNat)
        case atStart => exact ⟨0, B, q, bc, vs, Nat.zero_le _, rfl, rfl, by rw [HR.out.2.2.2]; rfl, H4.out.2.2.1, by simpa using H4.out.2.2.2.1, H4.out.2.2.2.2.1, H4.out.1, H4.out.2.1, H4.out.2.2.2.2.2.1, HNZ.out⟩
        case round =>
          obtain ⟨j, B, q, bc, vs, hj, rfl, rfl, hq, hown, hrows, hbl, hat, hrows4, hsep, hnz⟩ := hrel
          have HNZ5 := Lib.hid hnz
          clear hnz
          obtain ⟨wp, rfl⟩ : ∃ wp : World, wp = wr := ⟨_, rfl⟩
          by_cases hlj : j < ql
          · obtain ⟨os, hos⟩ : ∃ os, L[j]? = some os := ⟨_, List.getElem?_eq_getElem (by rw [← H4.out.2.2.2.2.2.2]; exact hlj)⟩
            have hosl := HL.out.2 os (List.mem_of_getElem? hos)
            obtain ⟨v, hv, A', c', rfl, hc1, hc2, hI, _⟩ := hrows4.2 j os hos
            rw [hosl] at hv hc1
            obtain ⟨ad, hadd, hcell⟩ := hat j _ hv
            injection hadd with hadd
            subst hadd
            have hcell' : wp.cell? ⟨g4, j, none⟩ = some (.slice A' m c') := by
              have e : (⟨g4, 0, none⟩ : Addr).add j = ⟨g4, j, none⟩ := by cases j <;> simp [Addr.add]
              rwa [e] at hcell
            have hA0 : A' = none → m = 0 ∧ c' = 0 := fun h => HNZ4.out _ (List.mem_of_getElem? hv) m c' (by rw [h])
            have l1 : (j : Int) < (ql : Int) := by omega
            have hq2 : q ≤ 90000 := by
              rw [hq, divsTo_length]
              have : i * L.length ≤ 4 * 16384 := Nat.mul_le_mul (by omega) hps
              omega
            have HS := Lib.hid (And.intro hown (And.intro hrows (And.intro hbl (And.intro hat (And.intro hrows4 (And.intro hsep (And.intro hI (And.intro hos (And.intro hosl hq)))))))))
            have hwp := hbl.size
            clear hown hrows hbl hat hrows4 hsep hI hos hosl hq hv hcell
            go_wp2_with (at_builtin; refine appN sty_int rfl _ _ rfl wp.heap.size (some ⟨wp.heap.size, 0, none⟩) 1 1 [.int .i64 (i : Int)] rfl ?d1 A' m c' (os.map (Value.int .i64)) hA0 ?d2 ?d3 ?d4 rfl (by omega) (by go_size) ?_)
            case d1 => exact own_new (w := wp) 3 #[.int .i64 (i : Int)] (show 1 ≤ maxLen by decide)
            case d2 => rw [List.length_map, HS.out.2.2.2.2.2.2.2.2.1, Nat.mul_one]
            case d3 => exact HS.out.2.2.2.2.2.2.1.below ((Below.refl _ _).alloc (Nat.le_refl _) _)
            case d4 => exact ints_one _
            intro A6 k6 w6 hown6 _ hbl6 hk61 hk62
            have hown6' : w6.ownsRow wp.heap.size 3 1 (.slice A6 (1 + m) k6) (1 + m) ((((i : Int)) :: os).map (Value.int .i64)) := hown6
            have hb6 : Below wp.heap.size wp w6 := ((Below.refl wp.heap.size wp).alloc (Nat.le_refl _) _).trans hbl6
            have hrow6 := Row1.of_own hown6' 0
            have hw6 := hb6.size
            have hown26 := own_below HS.out.1 hb6
            obtain ⟨ad6, hA6, _⟩ := own_some hown6' (by omega)
            subst hA6
            have hsz6 : g4 < w6.heap.size := Nat.lt_of_lt_of_le (lt_of_cell hcell') hw6
            have H6 := Lib.hid (And.intro hrow6 (And.intro hown26 (And.intro (HS.out.2.1.below hb6) (And.intro (HS.out.2.2.1.trans (hb6.mono hwp)) (And.intro (HS.out.2.2.2.1.below hb6) (HS.out.2.2.2.2.1.below hb6))))))
            clear hown6 hown6' hbl6 hb6 hrow6 hown26
            go_wp2_with (at_builtin; refine app1w sty_intss rfl _ _ rfl w.heap.size B q bc _ (.slice (some ⟨ad6, 0, none⟩) (1 + m) k6) (by simp [Value.oneCell']) rfl H6.out.2.1 w6.heap.size rfl rfl (by omega) (by omega) ?_)
            intro A8 k8 w8 hown8 hg8 hbl8 hk81 hk82 hst8
            have hB : ∀ ad, B = some ad → ad.block ≠ g4 := HS.out.2.2.2.2.2.1
            have hne4 : some g4 ≠ (Value.slice B q bc).ownBlock := by
              cases B with
              | none => intro h; cases h
              | some ad => intro h; injection h with h; exact hB ad rfl h.symm
            have hrows8 : Rows w8 0 (vs ++ [.slice (some ⟨ad6, 0, none⟩) (1 + m) k6]) (divsTo L i ++ (L.take (j + 1)).map (List.cons (i : Int))) := by
              rw [List.take_add_one, HS.out.2.2.2.2.2.2.2.1]
              simp only [Option.toList, List.map_append, List.map_cons, List.map_nil, ← List.append_assoc]
              have hl6 : (1 + m) = (((i : Int)) :: os).length := by simp [HS.out.2.2.2.2.2.2.2.2.1]; omega
              exact (H6.out.2.2.1.grown H6.out.2.1 (Nat.zero_le _) hg8).append (Rows.one_ (H6.out.1.grown H6.out.2.1 (Nat.zero_le _) hg8))
            have hat8 : At w8 (some ⟨g4, 0, none⟩) vs4 := by
              intro t u hu
              obtain ⟨ad, h1, h2⟩ := H6.out.2.2.2.2.1 t u hu
              injection h1 with h1
              subst h1
              exact ⟨_, rfl, hg8.cell h2 (by rw [add_block]; exact hne4)⟩
            have hrows48 := H6.out.2.2.2.2.2.grown H6.out.2.1 (Nat.zero_le _) hg8
            have hsep8 : ∀ ad, A8 = some ad → ad.block ≠ g4 := by
              intro ad had
              rcases hst8 ad (q + 1) k8 (by rw [had]) with ⟨n0, k0, h⟩ | h
              · injection h with h; exact hB ad h
              · omega
            have H8 := Lib.hid (And.intro hown8 (And.intro hrows8 (And.intro (H6.out.2.2.2.1.trans hbl8) (And.intro hat8 (And.intro hrows48 hsep8)))))
            clear hown8 hrows8 hbl8 hat8 hrows48 hsep8 hst8 hg8 hne4 hB
            go_wp2_with fail
            go_roundw
            case rel => exact ⟨j + 1, A8, q + 1, k8, _, by omega, by go_num, by go_num, by rw [HS.out.2.2.2.2.2.2.2.2.2]; omega, H8.out.1, H8.out.2.1, H8.out.2.2.1, H8.out.2.2.2.1, H8.out.2.2.2.2.1, H8.out.2.2.2.2.2, HNZ5.out.snoc⟩
            case measure => simp [intOf]; omega
          · obtain rfl : j = ql := by omega
            have hLT : L.take j = L := List.take_of_length_le (by rw [← H4.out.2.2.2.2.2.2]; exact Nat.le_refl _)
            rw [hLT, ← divsTo_succ] at hrows
            have HS := Lib.hid (And.intro hown (And.intro hrows (And.intro hbl (show q = (divsTo L (i + 1)).length by rw [hq, divsTo_succ, List.length_append, List.length_map, ← H4.out.2.2.2.2.2.2]))))
            clear hown hrows hbl hat hrows4 hsep hq hLT
            go_wp2_with fail
            go_roundw
            case rel => exact ⟨i + 1, B, q, bc, vs, by omega, by go_num, rfl, HS.out.2.2.2, HS.out.1, HS.out.2.1, HS.out.2.2.1, HNZ5.out⟩
            case measure => simp [intOf]; omega
      · obtain rfl : i = n := by omega
        go_wp2_with fail
        go_ret
        have hh := HR.out.2.2.2
        subst hh
        exact ⟨B, bc, vs, rfl, HR.out.1, HR.out.2.1, HNZ.out, HR.out.2.2.1⟩
end Go.Proofs.Ytkljambjdiblkaa
