/- Laws and contracts that the proof of GamesEither uses, part 1. -/
import Derived.WalkKit
import Derived.WalkSpells
import Derived.WalkLawsBesides
import Derived.Lib.Hide
import Derived.Deep.QuietTactic
import Derived.BigQuiet
import Derived.Handy
import Derived.Test.YtbidboagaoifaaaRows
import Derived.ProofKit
import Derived.OpenShut
import Derived.Test.YtbidboagaoifaaaProg
import Derived.Laws.BitsAllLaws
import Derived.Laws.BitsLemmas
import Derived.Laws.EntriesVeiled
import Derived.KernelRfl
namespace Go.Proofs.Ytbidboagaoifaaa
open Go.RowKit

/- Words for memory that the walks of this seat share: a slice of ints, of fractions, of slices, read in a world; what a call may have turned. Plain lemmas, no program. -/

/-- The cells from A on hold these values. -/
def At (w : World) (A : Option Addr) (cs : List Value) : Prop := ∀ i v, cs[i]? = some v → ∃ ad, A = some ad ∧ w.cell? (ad.add i) = some v

/-- The slice at A reads as these ints. -/
def Ints (w : World) (A : Option Addr) (xs : List Int) : Prop := At w A (xs.map (Value.int .i64))

theorem add_block (a : Addr) (n : Nat) : (a.add n).block = a.block := by unfold Addr.add; split <;> rfl
theorem add_add (a : Addr) (i j : Nat) : (a.add i).add j = a.add (i + j) := by
  unfold Addr.add
  by_cases hi : i = 0 <;> by_cases hj : j = 0 <;> simp [hi, hj, Nat.add_assoc]

theorem lt_of_cell {w : World} {p : Addr} {v : Value} (h : w.cell? p = some v) : p.block < w.heap.size := by
  rcases Nat.lt_or_ge p.block w.heap.size with hlt | hge
  · exact hlt
  · simp [World.cell?, Array.getElem?_eq_none hge] at h

section
variable {w w' : World} {A : Option Addr} {cs : List Value} {xs : List Int}
theorem At.keep (h : At w A cs) (hk : ∀ p v, w.cell? p = some v → w'.cell? p = some v) : At w' A cs :=
  fun i v hv => let ⟨ad, e, hc⟩ := h i v hv; ⟨ad, e, hk _ _ hc⟩
theorem At.below (h : At w A cs) (hb : Below w.heap.size w w') : At w' A cs :=
  h.keep fun _ _ hc => (hb.cell (lt_of_cell hc)).trans hc
theorem At.nil : At w A [] := fun i v h => by simp at h
theorem At.some_ (h : At w A cs) (hn : 0 < cs.length) : ∃ ad, A = some ad ∧ ad.block < w.heap.size ∧ ∀ i v, cs[i]? = some v → w.cell? (ad.add i) = some v := by
  obtain ⟨ad, rfl, hc⟩ := h 0 _ (List.getElem?_eq_getElem hn)
  refine ⟨ad, rfl, ?_, fun i v hv => ?_⟩
  · have := lt_of_cell hc; rwa [add_block] at this
  · obtain ⟨ad', e, hc'⟩ := h i v hv
    injection e with e; subst e; exact hc'
theorem At.some2 {ad : Addr} (h : At w (some ad) cs) : ∀ i v, cs[i]? = some v → w.cell? (ad.add i) = some v := by
  intro i v hv
  obtain ⟨ad', e, hc'⟩ := h i v hv
  injection e with e; subst e; exact hc'
theorem At.new {o : Obj} {ad : Addr} (h : ∀ i v, cs[i]? = some v → w.cell? (ad.add i) = some v) : ∀ i v, cs[i]? = some v → (w.alloc o).cell? (ad.add i) = some v :=
  fun i v hv => (World.cell?_alloc_lt _ _ _ (lt_of_cell (h i v hv))).trans (h i v hv)
theorem Ints.below (h : Ints w A xs) (hb : Below w.heap.size w w') : Ints w' A xs := At.below h hb
theorem Ints.some_ (h : Ints w A xs) (hn : 0 < xs.length) : ∃ ad, A = some ad ∧ ad.block < w.heap.size ∧ ∀ i x, xs[i]? = some x → w.cell? (ad.add i) = some (.int .i64 x) := by
  obtain ⟨ad, e, hb, hc⟩ := At.some_ h (by simpa using hn)
  exact ⟨ad, e, hb, fun i x hx => hc i _ (by simp [hx])⟩
theorem Ints.nil : Ints w A [] := At.nil
theorem Ints.mk_ {ad : Addr} (h : ∀ i x, xs[i]? = some x → w.cell? (ad.add i) = some (.int .i64 x)) : Ints w (some ad) xs := by
  intro i v hv
  simp only [List.getElem?_map, Option.map_eq_some_iff] at hv
  obtain ⟨x, hx, rfl⟩ := hv
  exact ⟨ad, rfl, h i x hx⟩
theorem At.of_own {base e size n : Nat} {c : Nat} (h : w.ownsRow base e size (.slice A n c) n cs) : At w A cs := by
  intro i v hv
  have hlt : i < cs.length := (List.getElem?_eq_some_iff.1 hv).1
  rcases h.2 with ⟨he, hn⟩ | ⟨g, cap, cur, he, _⟩
  · subst hn; have := h.1; omega
  · injection he with he
    subst he
    exact ⟨_, rfl, h.cells (g := g) rfl i v hv⟩
end

theorem below_drewN {B : Nat} {a w : World} (h : Below B a w) (n : Nat) : Below B a (w.drewN n) := ⟨h.os, h.tape, h.output, h.size, h.block⟩

/-- Below block number B, but for the blocks of S, the world w' is as w was. -/
structure Kept (B : Nat) (S : List Nat) (w w' : World) : Prop where
  os : w'.os = w.os
  tape : w'.tape = w.tape
  output : w'.output = w.output
  size : w.heap.size ≤ w'.heap.size
  block : ∀ k, k < B → k ∉ S → w'.heap[k]? = w.heap[k]?
section
variable {B B' : Nat} {S S' : List Nat} {a b w w' : World}
theorem Kept.refl (B : Nat) (S : List Nat) (w : World) : Kept B S w w := ⟨rfl, rfl, rfl, Nat.le_refl _, fun _ _ _ => rfl⟩
theorem Kept.trans (h : Kept B S a b) (k : Kept B S b w) : Kept B S a w :=
  ⟨k.os.trans h.os, k.tape.trans h.tape, k.output.trans h.output, Nat.le_trans h.size k.size, fun i hi hn => (k.block i hi hn).trans (h.block i hi hn)⟩
theorem Kept.mono (h : Kept B S w w') (hB : B' ≤ B) (hS : ∀ x ∈ S, x ∈ S' ∨ B' ≤ x) : Kept B' S' w w' :=
  ⟨h.os, h.tape, h.output, h.size, fun k hk hn => h.block k (Nat.lt_of_lt_of_le hk hB) fun hm => (hS k hm).elim hn (fun hh => by omega)⟩
theorem Kept.of_below (h : Below B w w') (S : List Nat) : Kept B S w w' := ⟨h.os, h.tape, h.output, h.size, fun k hk _ => h.block k hk⟩
theorem Kept.below (h : Kept B [] w w') : Below B w w' := ⟨h.os, h.tape, h.output, h.size, fun k hk => h.block k hk (by simp)⟩
theorem Kept.drew (h : Kept B S a w) : Kept B S a w.drew := ⟨h.os, h.tape, h.output, h.size, h.block⟩
theorem Kept.drewN (h : Kept B S a w) (n : Nat) : Kept B S a (w.drewN n) := ⟨h.os, h.tape, h.output, h.size, h.block⟩
theorem Kept.alloc (h : Kept B S a w) (hB : B ≤ w.heap.size) (o : Obj) : Kept B S a (w.alloc o) :=
  h.trans ⟨rfl, rfl, rfl, by simp, fun k hk _ => Below.heap_alloc _ _ _ (by omega)⟩
theorem Kept.setCell (h : Kept B S a w) {p : Addr} (hp : p.block ∈ S ∨ B ≤ p.block) (u : Value) : Kept B S a (w.setCell p u) :=
  h.trans ⟨rfl, rfl, rfl, by simp [World.setCell], fun k hk hn => Below.heap_setCell _ _ _ _ (by rintro rfl; rcases hp with hp | hp; exact hn hp; omega)⟩
theorem Kept.grown {row : Option Nat} (h : Kept B S a w) (hg : w.grownBy w' row) (hB : B ≤ w.heap.size) (hr : ∀ k, row = some k → k ∈ S ∨ B ≤ k) : Kept B S a w' :=
  h.trans ⟨hg.os, hg.tape, hg.output, hg.size, fun k hk hn => hg.block k (by omega) (fun e => by rcases hr k e.symm with h1 | h1; exact hn h1; omega)⟩
theorem Kept.cell (h : Kept B S w w') {p : Addr} (hp : p.block < B) (hn : p.block ∉ S) : w'.cell? p = w.cell? p := World.cell?_of_block (w := w) (h.block p.block hp hn)
end

/-- Block g is just these cells of type t, none frozen. -/
def Blk (w : World) (g : Nat) (t : TypeId) (cs : Array Value) : Prop := w.heap[g]? = some (.cells cs t (0, 0))
section
variable {w w' : World} {g : Nat} {t : TypeId} {cs : Array Value}
theorem Blk.lt (h : Blk w g t cs) : g < w.heap.size := lt_of_block h
theorem Blk.cell (h : Blk w g t cs) (i : Nat) : w.cell? ⟨g, i, none⟩ = cs[i]? := cell_of_row w g i cs t (0, 0) h
theorem Blk.frozen (h : Blk w g t cs) (i : Nat) : w.frozen? ⟨g, i, none⟩ = false := by
  unfold Blk at h
  simp [World.frozen?, h]
theorem Blk.new (w : World) (t : TypeId) (cs : Array Value) (hg : g = w.heap.size) : Blk (w.alloc (.cells cs t)) g t cs := by subst hg; exact heap_alloc_new w _
theorem Blk.drewN (h : Blk w g t cs) (n : Nat) : Blk (w.drewN n) g t cs := h
theorem Blk.alloc (h : Blk w g t cs) (o : Obj) : Blk (w.alloc o) g t cs := (Below.heap_alloc w o g h.lt).trans h
theorem Blk.set_ (h : Blk w g t cs) (i : Nat) (u : Value) : Blk (w.setCell ⟨g, i, none⟩ u) g t (cs.setIfInBounds i u) := by
  unfold Blk at h ⊢
  simp [World.setCell, Array.getElem?_modify, h]
theorem Blk.far (h : Blk w g t cs) {p : Addr} (hp : g ≠ p.block) (u : Value) : Blk (w.setCell p u) g t cs := (Below.heap_setCell w p u g hp).trans h
theorem Blk.below {B : Nat} (h : Blk w g t cs) (hb : Below B w w') (hg : g < B) : Blk w' g t cs := (hb.block g hg).trans h
theorem Blk.kept {B : Nat} {S : List Nat} (h : Blk w g t cs) (hb : Kept B S w w') (hg : g < B) (hn : g ∉ S) : Blk w' g t cs := (hb.block g hg hn).trans h
theorem Blk.grown {row : Option Nat} (h : Blk w g t cs) (hb : w.grownBy w' row) (hg : some g ≠ row) : Blk w' g t cs := (hb.block g h.lt hg).trans h
theorem Blk.at1 {a : Value} (h : Blk w g t #[a]) : w.cell? ⟨g, 0, none⟩ = some a ∧ w.frozen? ⟨g, 0, none⟩ = false := ⟨h.cell 0, h.frozen 0⟩
theorem Blk.at2 {a b : Value} (h : Blk w g t #[a, b]) : w.cell? ⟨g, 0, none⟩ = some a ∧ w.cell? ⟨g, 1, none⟩ = some b ∧ w.frozen? ⟨g, 0, none⟩ = false ∧ w.frozen? ⟨g, 1, none⟩ = false :=
  ⟨h.cell 0, h.cell 1, h.frozen 0, h.frozen 1⟩
theorem Blk.at_ (h : Blk w g t cs) : At w (some ⟨g, 0, none⟩) cs.toList := by
  intro i v hv
  refine ⟨_, rfl, ?_⟩
  have hc := h.cell i
  rw [Array.getElem?_toList] at hv
  rw [hv] at hc
  rw [← hc]
  unfold Addr.add
  split
  · rename_i h0; subst h0; rfl
  · simp
theorem Blk.ints {xs : List Int} (h : Blk w g t (xs.map (Value.int .i64)).toArray) : Ints w (some ⟨g, 0, none⟩) xs := by simpa [Ints] using h.at_
theorem Blk.ne_ {g' : Nat} {t' : TypeId} {cs' : Array Value} (h : Blk w g t cs) (h' : Blk w g' t' cs') (hne : t ≠ t') : g ≠ g' := by
  rintro rfl
  unfold Blk at h h'
  rw [h] at h'
  injection h' with h'
  injection h' with _ ht
  exact hne ht
end

/-- The cells of a row of ints. -/
def arr (xs : List Int) : Array Value := (xs.map (Value.int .i64)).toArray
theorem arr_size (xs : List Int) : (arr xs).size = xs.length := by simp [arr]
theorem arr_get (xs : List Int) (i : Nat) : (arr xs)[i]? = (xs[i]?).map (Value.int .i64) := by simp [arr]
theorem arr_set (xs : List Int) (i : Nat) (y : Int) : (arr xs).setIfInBounds i (.int .i64 y) = arr (xs.set i y) := by
  apply Array.ext'
  simp [arr, List.map_set]
theorem blk_ints {w : World} {g : Nat} {t : TypeId} {xs : List Int} (h : Blk w g t (arr xs)) : Ints w (some ⟨g, 0, none⟩) xs := Blk.ints h
theorem arr_zeros (n : Nat) : madeCells (Value.int .i64 0).cells (n * 1) = arr (List.replicate n 0) := by
  apply Array.ext'
  show (madeCells #[Value.int .i64 0] (n * 1)).toList = _
  rw [toList_madeCells_one]; simp [arr]

/-- The first place of a number in a list; -1: none. -/
def idx (xs : List Int) (y : Int) : Int := if y ∈ xs then (xs.idxOf y : Nat) else -1
def has (xs : List Int) (y : Int) : Bool := decide (y ∈ xs)
theorem idx_nonneg (xs : List Int) (y : Int) : decide (0 ≤ idx xs y) = has xs y := by
  unfold idx has; by_cases h : y ∈ xs <;> simp [h]
theorem idx_bd (xs : List Int) (y : Int) : -1 ≤ idx xs y ∧ idx xs y ≤ xs.length := by
  unfold idx
  split
  · have := List.idxOf_le_length (a := y) (l := xs); omega
  · omega
theorem take_succ' {xs : List Int} {k : Nat} {x : Int} (h : xs[k]? = some x) : xs.take (k + 1) = xs.take k ++ [x] := by
  rw [List.take_add_one, h]; rfl
theorem idx_hit {xs : List Int} {y : Int} {k : Nat} (hx : xs[k]? = some y) (hn : y ∉ xs.take k) : idx xs y = k := by
  have hk : k < xs.length := (List.getElem?_eq_some_iff.1 hx).1
  have he : xs[k] = y := (List.getElem?_eq_some_iff.1 hx).2
  have hm : y ∈ xs := by rw [← he]; exact List.getElem_mem hk
  unfold idx
  rw [if_pos hm]
  have h1 : xs = xs.take k ++ (y :: xs.drop (k + 1)) := by rw [← he, ← List.drop_eq_getElem_cons hk, List.take_append_drop]
  have : xs.idxOf y = k := by
    conv => lhs; rw [h1]
    rw [List.idxOf_append, if_neg hn]
    simp only [List.idxOf_cons, beq_self_eq_true, cond_true, List.length_take]
    omega
  rw [this]
theorem idx_miss {xs : List Int} {y : Int} (hn : y ∉ xs) : idx xs y = -1 := by unfold idx; rw [if_neg hn]
theorem nmem_take_succ {xs : List Int} {k : Nat} {x y : Int} (h : xs[k]? = some x) (hn : y ∉ xs.take k) (hne : y ≠ x) : y ∉ xs.take (k + 1) := by
  rw [take_succ' h]; simp [hn, hne]

def lmin : List Int → Int
  | [] => 0
  | x :: xs => xs.foldl min x
def lmax : List Int → Int
  | [] => 0
  | x :: xs => xs.foldl max x
theorem foldl_min_le (l : List Int) (a : Int) : l.foldl min a ≤ a ∧ ∀ x ∈ l, l.foldl min a ≤ x := by
  induction l generalizing a with
  | nil => simp
  | cons y l ih =>
    simp only [List.foldl_cons, List.mem_cons, forall_eq_or_imp]
    have := ih (min a y)
    exact ⟨by omega, by omega, this.2⟩
theorem foldl_min_mem (l : List Int) (a : Int) : l.foldl min a = a ∨ l.foldl min a ∈ l := by
  induction l generalizing a with
  | nil => simp
  | cons y l ih =>
    simp only [List.foldl_cons, List.mem_cons]
    rcases ih (min a y) with h | h
    · rw [h]; omega
    · exact .inr (.inr h)
theorem foldl_max_ge (l : List Int) (a : Int) : a ≤ l.foldl max a ∧ ∀ x ∈ l, x ≤ l.foldl max a := by
  induction l generalizing a with
  | nil => simp
  | cons y l ih =>
    simp only [List.foldl_cons, List.mem_cons, forall_eq_or_imp]
    have := ih (max a y)
    exact ⟨by omega, by omega, this.2⟩
theorem foldl_max_mem (l : List Int) (a : Int) : l.foldl max a = a ∨ l.foldl max a ∈ l := by
  induction l generalizing a with
  | nil => simp
  | cons y l ih =>
    simp only [List.foldl_cons, List.mem_cons]
    rcases ih (max a y) with h | h
    · rw [h]; omega
    · exact .inr (.inr h)
theorem lmin_ge {xs : List Int} (h : xs ≠ []) (m : Int) : m ≤ lmin xs ↔ ∀ x ∈ xs, m ≤ x := by
  cases xs with
  | nil => exact absurd rfl h
  | cons x xs =>
    have h1 := foldl_min_le xs x
    have h2 := foldl_min_mem xs x
    simp only [lmin, List.mem_cons, forall_eq_or_imp]
    constructor
    · intro hm; exact ⟨by omega, fun y hy => by have := h1.2 y hy; omega⟩
    · rintro ⟨ha, hb⟩
      rcases h2 with h2 | h2
      · omega
      · exact hb _ h2
theorem lmax_le {xs : List Int} (h : xs ≠ []) (m : Int) : lmax xs ≤ m ↔ ∀ x ∈ xs, x ≤ m := by
  cases xs with
  | nil => exact absurd rfl h
  | cons x xs =>
    have h1 := foldl_max_ge xs x
    have h2 := foldl_max_mem xs x
    simp only [lmax, List.mem_cons, forall_eq_or_imp]
    constructor
    · intro hm; exact ⟨by omega, fun y hy => by have := h1.2 y hy; omega⟩
    · rintro ⟨ha, hb⟩
      rcases h2 with h2 | h2
      · omega
      · exact hb _ h2
theorem lmin_take {xs : List Int} {k : Nat} {x : Int} (h : xs[k]? = some x) (hk : 0 < k) : lmin (xs.take (k + 1)) = min (lmin (xs.take k)) x := by
  rw [take_succ' h]
  have hl : k < xs.length := (List.getElem?_eq_some_iff.1 h).1
  cases hx : xs.take k with
  | nil => have h0 : (xs.take k).length = k := by simp; omega
           rw [hx] at h0; simp at h0; omega
  | cons a l => simp [lmin, List.foldl_append]
theorem lmax_take {xs : List Int} {k : Nat} {x : Int} (h : xs[k]? = some x) (hk : 0 < k) : lmax (xs.take (k + 1)) = max (lmax (xs.take k)) x := by
  rw [take_succ' h]
  have hl : k < xs.length := (List.getElem?_eq_some_iff.1 h).1
  cases hx : xs.take k with
  | nil => have h0 : (xs.take k).length = k := by simp; omega
           rw [hx] at h0; simp at h0; omega
  | cons a l => simp [lmax, List.foldl_append]
theorem ret_int {k : IntKind} {a b : Int} (h : a = b) : Ending.returned (.int k a) = .returned (.int k b) := by rw [h]
theorem val_int {k : IntKind} {a b : Int} (h : a = b) : Value.int k a = .int k b := by rw [h]
theorem ret_bool {a b : Bool} (h : a = b) : Ending.returned (.bool a) = .returned (.bool b) := by rw [h]

/- The step from a statement's walk to its row: the arguments opened, and read again behind the call. -/
open Go.ChangeShapes Go.WideShapes Go.ChangeAt Go.RowKit Go.WideMaps Go.WideElems

theorem t_own : ownKnob Try.prog.godebug = none := by kernel_rfl
theorem t_laidOut : laidOutB Try.prog = true := by kernel_rfl

section
variable {H : Type} {enc : TypeId × Value → H}

theorem post_of_below {P : Program} {f : Func} {s : ChangeSpec} {apart fresh handsOn again : Bool} {W W' : World} {args : Array Value} {v : Value} {ds gs : List (DataW H)} {before pa pv : List MemPlace}
    (hW : DataW.Whole enc P f.params.toList s.vars apart W args.toList ds gs before)
    (hres : ∀ (b : Nat) (sp : Nat → Bool) (hd : Bool), DataW.TrodAll enc P W' b sp hd f.resultTypes.toList (v.resultList f.resultTypes.size) (s.fn H (ds ++ gs)).results [])
    (hargs : ∀ sp : Nat → Bool, (∀ p ∈ before, sp p.block = true) → DataW.TrodAll enc P W' 0 sp true f.params.toList args.toList (s.fn H (ds ++ gs)).args pa)
    (hvars : ∀ sp : Nat → Bool, (∀ p ∈ before, sp p.block = true) → DataW.TrodVars enc P W' sp s.vars (s.fn H (ds ++ gs)).vars pv)
    (hps : before = pa ++ pv) (hb : Below W.heap.size W W')
    (hok : ∀ (j : Nat) (t : TypeId) (r : Value), f.resultTypes[j]? = some t → (v.resultList f.resultTypes.size)[j]? = some r → Value.okWide P W' .any 0 t r) :
    s.post enc P f apart fresh handsOn again W args v W' := by
  have hlt : ∀ p ∈ before, p.block < W.heap.size := fun p hp => hW.lt p hp
  have hold : ∀ p ∈ before, (fun b => decide (b < W.heap.size)) p.block = true := fun p hp => by simpa using hlt p hp
  refine ⟨ds, gs, before, [], pa, pv, hW, hres _ _ _, hargs _ hold, hvars _ hold, World.keptBut_mono (fun p hp => ⟨hp, ?_⟩) (hb.frame (· ∈ before)), fun _ => ?_⟩
  · rw [hps, List.mem_append] at hp
    exact Or.inr hp
  · obtain ⟨_, _, _, _, _, hz, hn⟩ := hW
    refine ⟨hok, _, _, ([] ++ pa) ++ pv, ⟨[] ++ pa, pv, trodAll_append (hargs _ (fun _ _ => rfl)) (hres _ _ _), hvars _ (fun _ _ => rfl), rfl, ?_, ?_⟩, ?_⟩
    · intro b off hp
      have hin : MemPlace.cell b off ∈ before := by rw [hps]; simpa using hp
      rw [hb.frozen (hlt _ hin)]
      exact hz b off hin
    · intro ha
      have := hn ha
      rw [hps] at this
      simpa using this
    · intro p hp _
      rw [hps]
      simpa using hp

/-- All arguments read behind the call as before it. -/
theorem trodAll_below {W W' : World} (hb : Below W.heap.size W W') (sp : Nat → Bool) : ∀ (ts : List TypeId) (vs : List Value) (ds : List (DataW H)) (ps : List MemPlace),
    (∀ t ∈ ts, Try.prog.readableRec t = true ∧ t < Try.prog.types.size) → (∀ x ∈ ps, x.block < W.heap.size) → (∀ x ∈ ps, sp x.block = true) →
    DataW.TrodAll enc Try.prog W 0 (fun _ => true) true ts vs ds ps → DataW.TrodAll enc Try.prog W' 0 sp true ts vs ds ps
  | [], [], [], _, _, _, _, h => h
  | t :: ts, v :: vs, d :: ds, ps, hr, hlt, hsp, h => by
    obtain ⟨p, q, h1, h2, rfl⟩ := h
    refine ⟨p, q, ?_, ?_, rfl⟩
    · exact WideElems.Trod_stays t_laidOut (hr t (by simp)).1 (hr t (by simp)).2 h1 (fun x hx => hb.same (hlt x (by simp [hx]))) (fun x hx => hsp x (by simp [hx]))
    · exact trodAll_below hb sp ts vs ds q (fun t' ht' => hr t' (by simp [ht'])) (fun x hx => hlt x (by simp [hx])) (fun x hx => hsp x (by simp [hx])) h2
  | [], [], _ :: _, _, _, _, _, h => h.elim
  | [], _ :: _, _, _, _, _, _, h => h.elim
  | _ :: _, [], _, _, _, _, _, h => h.elim
  | _ :: _, _ :: _, [], _, _, _, _, h => h.elim

/-- A slice of ints among the arguments, opened. -/
theorem open_intsI {W : World} {v : Value} {d : DataW H} {p : List MemPlace} {spare : Nat → Bool} {b : Nat} (h : DataW.Trod enc Try.prog W b spare true 22 v d p)
    (hv : ∃ a len cap, v = .slice a len cap) :
    ∃ A n cap xs, v = .slice A n cap ∧ xs.length = n ∧ n ≤ cap ∧ cap ≤ 9223372036854775807 ∧ Ints W A xs ∧ ∀ x ∈ xs, -9223372036854775808 ≤ x ∧ x ≤ 9223372036854775807 := by
  obtain ⟨a0, len, cap, rfl⟩ := hv
  obtain ⟨fuel, hf⟩ := h
  rcases open_ints Try.underlying22 Try.underlying3 (by kernel_rfl) hf with ⟨hcs, _⟩ | ⟨a, len', cap', zs, hcs, _, hl, hm, hz, _, hcell, hwz⟩
  · have e : Value.slice a0 len cap = .slice none 0 0 := by simpa [Value.cells] using hcs
    rw [e]
    exact ⟨none, 0, 0, [], rfl, rfl, by omega, by omega, Ints.nil, by simp⟩
  · have e : Value.slice a0 len cap = .slice (some a) len' cap' := by simpa [Value.cells] using hcs
    rw [e]
    have hzl : len' ≤ zs.length := by rw [hz]; split <;> omega
    refine ⟨some a, len', cap', zs.take len', rfl, by rw [List.length_take]; omega, hl, by unfold maxLen at hm; omega, ?_, ?_⟩
    · refine Ints.mk_ fun i x hx => ?_
      have hi : i < len' := by
        have := (List.getElem?_eq_some_iff.1 hx).1; rw [List.length_take] at this; omega
      rw [List.getElem?_take_of_lt hi] at hx
      have := hcell i (by omega)
      rwa [List.getD_eq_getElem?_getD, hx] at this
    · intro x hx
      have := hwz x (List.mem_of_mem_take hx)
      simp [Lit.wf, IntKind.min, IntKind.max, IntKind.signed, IntKind.bits] at this
      omega
end

/- make([]int, n) in this seat's program. -/
theorem info_int0 : (Try.prog.info? 3).map (fun i => (i.zero, i.size, i.bytes)) = some (some (.int .i64 0), 1, 8) := by kernel_rfl
/-- make([]int, n). -/
theorem make_ints (n : Nat) (hn : n ≤ 1000000) (w : World) : (Instr.makeSlice 22 (.int .i64 n) (.int .i64 n)).run Try.prog w = .ok (.slice (some ⟨w.heap.size, 0, none⟩) n n) (w.alloc (.cells (arr (List.replicate n 0)) 3)) := by
  obtain ⟨i0, hi, hz0, hz1, hz2⟩ := info_parts info_int0
  have hr := run_make (P := Try.prog) w 22 3 i0 (.int .i64 0) Try.underlying22 hi hz0 .i64 .i64 n n (by omega) (by omega) (by rw [hz2]; omega) (by omega)
  simp only [Int.toNat_natCast, hz1] at hr
  rw [hr, arr_zeros]


/- Bits of sets of at most a few players, as the walk writes them. No program. -/

theorem ofInt_i64 (a : Nat) (ha : a < 9223372036854775808) : (BitVec.ofInt 64 (a : Int)).toNat = a := by
  rw [BitVec.ofInt_natCast, BitVec.toNat_ofNat]; exact Nat.mod_eq_of_lt (by omega)
theorem and_nat (a b : Nat) (ha : a < 9223372036854775808) (hb : b < 9223372036854775808) : bits .and .i64 (a : Int) (b : Int) = ((a &&& b : Nat) : Int) := by
  have hx : a &&& b < 2 ^ 63 := Nat.and_lt_two_pow _ (by omega)
  show IntKind.i64.wrap ((BitVec.ofInt 64 (a : Int) &&& BitVec.ofInt 64 (b : Int)).toNat : Int) = _
  rw [BitVec.toNat_and, ofInt_i64 a ha, ofInt_i64 b hb, IntKind.wrap_i64]
  omega
theorem or_nat (a b : Nat) (ha : a < 9223372036854775808) (hb : b < 9223372036854775808) : bits .or .i64 (a : Int) (b : Int) = ((a ||| b : Nat) : Int) := by
  have hx : a ||| b < 2 ^ 63 := Nat.or_lt_two_pow (by omega) (by omega)
  show IntKind.i64.wrap ((BitVec.ofInt 64 (a : Int) ||| BitVec.ofInt 64 (b : Int)).toNat : Int) = _
  rw [BitVec.toNat_or, ofInt_i64 a ha, ofInt_i64 b hb, IntKind.wrap_i64]
  omega
theorem pow_wrap (x : Nat) (hx : x < 16) : IntKind.i64.wrap ((2 : Int) ^ x) = ((2 ^ x : Nat) : Int) := by
  have : ∀ x : Fin 16, IntKind.i64.wrap ((2 : Int) ^ x.val) = ((2 ^ x.val : Nat) : Int) := by decide +kernel
  exact this ⟨x, hx⟩
theorem pow_lt {x : Nat} (hx : x < 16) : 2 ^ x < 65536 := by
  have : ∀ x : Fin 16, 2 ^ x.val < 65536 := by decide +kernel
  exact this ⟨x, hx⟩
theorem wrapEq (x : Int) : IntKind.i64.wrap x = wrap64 x := by unfold wrap64; rw [IntKind.wrap_i64]
/-- 'set | 1 << x', in the two spellings of the walk. -/
theorem or_pow (set x : Nat) (hs : set < 65536) (hx : x < 16) : bits .or .i64 (set : Int) (IntKind.i64.wrap ((2 : Int) ^ x)) = ((set ||| 2 ^ x : Nat) : Int) := by
  have := pow_lt hx
  rw [pow_wrap x hx, or_nat _ _ (by omega) (by omega)]
theorem or_pow' (set x : Nat) (hs : set < 65536) (hx : x < 16) : bits .or .i64 (set : Int) (wrap64 ((2 : Int) ^ x)) = ((set ||| 2 ^ x : Nat) : Int) := by
  rw [← wrapEq]; exact or_pow set x hs hx
/-- 'set >> k & 1', as the walk writes it. -/
theorem and_shr (set k : Nat) (h : set < 9223372036854775808) : bits .and .i64 ((set : Int) / 2 ^ k) 1 = ((if set.testBit k then 1 else 0 : Nat) : Int) := by
  have e : ((set : Int) / 2 ^ k) = ((set / 2 ^ k : Nat) : Int) := by simp
  have hle : set / 2 ^ k ≤ set := Nat.div_le_self _ _
  have e1 : (1 : Int) = ((1 : Nat) : Int) := rfl
  rw [e, e1, and_nat _ _ (by omega) (by omega), Nat.and_one_is_mod, Nat.testBit_eq_decide_div_mod_eq]
  have : set / 2 ^ k % 2 < 2 := Nat.mod_lt _ (by omega)
  by_cases h1 : set / 2 ^ k % 2 = 1
  · simp [h1]
  · have h0 : set / 2 ^ k % 2 = 0 := by omega
    simp [h0]
theorem and_shr_t {set k : Nat} (h : set < 9223372036854775808) (ht : set.testBit k = true) : (bits .and .i64 ((set : Int) / 2 ^ k) 1 == 1) = true := by
  rw [and_shr set k h, ht]; rfl
theorem and_shr_f {set k : Nat} (h : set < 9223372036854775808) (ht : set.testBit k = false) : (bits .and .i64 ((set : Int) / 2 ^ k) 1 == 1) = false := by
  rw [and_shr set k h, ht]; rfl
theorem or_pow_lt {set x n : Nat} (hs : set < 2 ^ n) (hx : x < n) : set ||| 2 ^ x < 2 ^ n := Nat.or_lt_two_pow hs (Nat.pow_lt_pow_right (by omega) hx)

/- What players pay in an order: plain Lean. -/

/-- What one more player pays, and the set with that player. -/
def joinStep (c : List Int) (p : Nat × List Int) (i : Nat) : Nat × List Int := (p.1 ||| 2 ^ i, p.2.set i (c.getD (p.1 ||| 2 ^ i) 0 - c.getD p.1 0))
/-- What the players pay in an order. -/
def joinL (c : List Int) (os : List Nat) : List Int := (os.foldl (joinStep c) (0, List.replicate os.length 0)).2
def joinP (c : List Int) (n : Nat) (os : List Nat) : Nat × List Int := os.foldl (joinStep c) (0, List.replicate n 0)
theorem joinP_succ (c : List Int) (n : Nat) (os : List Nat) (k x : Nat) (h : os[k]? = some x) : joinP c n (os.take (k + 1)) = joinStep c (joinP c n (os.take k)) x := by
  unfold joinP
  rw [List.take_add_one, h]
  simp [List.foldl_append]
theorem joinP_bd (c : List Int) (n : Nat) (os : List Nat) (h : ∀ x ∈ os, x < n) : (joinP c n os).1 < 2 ^ n ∧ (joinP c n os).2.length = n := by
  unfold joinP
  suffices ∀ p : Nat × List Int, p.1 < 2 ^ n → p.2.length = n → (os.foldl (joinStep c) p).1 < 2 ^ n ∧ (os.foldl (joinStep c) p).2.length = n from this _ (by simp; exact Nat.pos_of_neZero _) (by simp)
  induction os with
  | nil => intro p h1 h2; exact ⟨h1, h2⟩
  | cons x os ih =>
    intro p h1 h2
    exact ih (fun y hy => h y (List.mem_cons_of_mem _ hy)) _ (or_pow_lt h1 (h x (List.mem_cons_self ..))) (by simp [joinStep, h2])


/- Contract: join of package games. -/

set_option maxHeartbeats 800000 in
theorem join_any (ad ac : Addr) (N cap n cap' : Nat) (c : List Int) (os : List Nat) (w : World) (hn : n ≤ 4) (hN : N = 2 ^ n) (hl : c.length = N) (hol : os.length = n)
    (hc : ∀ i x, c[i]? = some x → w.cell? (ac.add i) = some (.int .i64 x)) (ho : ∀ i x, os[i]? = some x → w.cell? (ad.add i) = some (.int .i64 (x : Nat)))
    (hos : ∀ x ∈ os, x < n) (hcb : ∀ x ∈ c, 0 ≤ x ∧ x ≤ 1000) :
    Calls Try.prog 60 #[.slice (some ac) N cap, .slice (some ad) n cap'] w fun e w' => e = .returned (.slice (some ⟨w.heap.size, 0, none⟩) n n) ∧ Blk w' w.heap.size 3 (arr (joinL c os)) ∧ Below w.heap.size w w' := by
  have hmk := make_ints n (by omega)
  have HN := Lib.hid hN
  have HL := Lib.hid hl
  have HOL := Lib.hid hol
  have HC := Lib.hid hc
  have HO := Lib.hid ho
  have HOS := Lib.hid hos
  have HCB := Lib.hid hcb
  clear hN hl hol hc ho hos hcb
  go_enter Try.func60, Try.ntmps60
  go_wp2
  go_loopw [6, 14] (fun s i wr => ∃ k set : Nat, k ≤ n ∧ i = .int .i64 k ∧ s = .int .i64 set ∧ set = (joinP c n (os.take k)).1 ∧ Blk wr w.heap.size 3 (arr (joinP c n (os.take k)).2) ∧ Below w.heap.size w wr) (fun _ i _ => n - (intOf i).toNat)
  case atStart => exact ⟨0, 0, Nat.zero_le _, rfl, rfl, rfl, Blk.new _ _ _ rfl, (Below.refl _ _).alloc (Nat.le_refl _) _⟩
  case round =>
    obtain ⟨k, set, h1, rfl, rfl, hset, hB, hb⟩ := hrel
    have HSET := Lib.hid hset
    have HB := Lib.hid hB
    have HBL := Lib.hid hb
    clear hset hB hb
    by_cases hlt : k < n
    · obtain ⟨x, hx⟩ : ∃ x, os[k]? = some x := ⟨_, List.getElem?_eq_getElem (by rw [HOL.out]; exact hlt)⟩
      have hxn : x < n := HOS.out x (List.mem_of_getElem? hx)
      have bd := joinP_bd c n (os.take k) (fun y hy => HOS.out y (List.mem_of_mem_take hy))
      rw [← HSET.out] at bd
      have hlt2 : set ||| 2 ^ x < 2 ^ n := or_pow_lt bd.1 hxn
      have hp : 2 ^ n ≤ 16 := by have := Nat.pow_le_pow_right (show 0 < 2 by omega) hn; simpa using this
      obtain ⟨s', hs'⟩ : ∃ s' : Nat, s' = set ||| 2 ^ x := ⟨_, rfl⟩
      have e1 := or_pow set x (by omega) (by omega)
      have e2 := or_pow' set x (by omega) (by omega)
      rw [← hs'] at e1 e2 hlt2
      obtain ⟨y1, hy1⟩ : ∃ y, c[s']? = some y := ⟨_, List.getElem?_eq_getElem (by rw [HL.out, HN.out]; exact hlt2)⟩
      obtain ⟨y0, hy0⟩ : ∃ y, c[set]? = some y := ⟨_, List.getElem?_eq_getElem (by rw [HL.out, HN.out]; exact bd.1)⟩
      have b1 := HCB.out y1 (List.mem_of_getElem? hy1)
      have b0 := HCB.out y0 (List.mem_of_getElem? hy0)
      have c1 := (HBL.out.cell (lt_of_cell (HC.out _ _ hy1))).trans (HC.out _ _ hy1)
      have c0 := (HBL.out.cell (lt_of_cell (HC.out _ _ hy0))).trans (HC.out _ _ hy0)
      have c2 := (HBL.out.cell (lt_of_cell (HO.out _ _ hx))).trans (HO.out _ _ hx)
      have hlN : s' < N := by rw [HN.out]; exact hlt2
      have hl0 : set < N := by rw [HN.out]; exact bd.1
      obtain ⟨z, hz⟩ : ∃ z, (joinP c n (os.take k)).2[x]? = some z := ⟨_, List.getElem?_eq_getElem (by rw [bd.2]; exact hxn)⟩
      have c3 : wr.cell? ⟨w.heap.size, x, none⟩ = some (.int .i64 z) := by rw [HB.out.cell, arr_get, hz]; rfl
      have f3 : wr.frozen? ⟨w.heap.size, x, none⟩ = false := HB.out.frozen x
      have HNEW : Hid (joinP c n (os.take (k + 1)) = (s', (joinP c n (os.take k)).2.set x (y1 - y0))) := Lib.hid (by
        rw [joinP_succ c n os k x hx, joinStep, ← HSET.out, ← hs', List.getD_eq_getElem?_getD, List.getD_eq_getElem?_getD, hy1, hy0]; rfl)
      clear hx hs' hy1 hy0 hz bd hlt2 hp
      go_wp2
      go_region
      go_wp2
      go_roundw
      case rel =>
        refine ⟨k + 1, s', by omega, by go_num, rfl, by rw [HNEW.out], ?_, HBL.out.drew.setCell (Nat.le_refl _) _⟩
        rw [HNEW.out, ← arr_set]
        exact Blk.set_ (w := wr.drew) HB.out x _
      case measure => simp [intOf]; omega
    · go_wp2
      go_ret
      refine ⟨rfl, ?_, HBL.out⟩
      have h := HB.out
      rwa [List.take_of_length_le (by rw [HOL.out]; omega), show joinP c n os = os.foldl (joinStep c) (0, List.replicate os.length 0) from by rw [joinP, HOL.out]] at h

/- What valid costs are, as plain Lean; no program. -/

/-- A number from 0 to 1000. -/
def inR (x : Int) : Bool := decide (0 ≤ x) && decide (x ≤ 1000)
/-- Valid costs. -/
def valC (xs : List Int) : Bool := (decide (xs.length = 2) || decide (xs.length = 4) || decide (xs.length = 8) || decide (xs.length = 16)) && (xs.getD 0 1 == 0) && xs.all inR
/-- How many players; 0: the costs are not valid. -/
def plr (xs : List Int) : Nat := if valC xs then (if xs.length = 2 then 1 else if xs.length = 4 then 2 else if xs.length = 8 then 3 else 4) else 0
theorem plr_bad {xs : List Int} (h : valC xs = false) : plr xs = 0 := by simp [plr, h]
theorem valC_len {xs : List Int} (h : xs.length ≠ 2 ∧ xs.length ≠ 4 ∧ xs.length ≠ 8 ∧ xs.length ≠ 16) : valC xs = false := by simp [valC, h]
theorem valC_elem {xs : List Int} {k : Nat} {x : Int} (hx : xs[k]? = some x) (h : inR x = false) : valC xs = false := by
  have : xs.all inR = false := by
    rw [List.all_eq_false]
    exact ⟨x, List.mem_of_getElem? hx, by simp [h]⟩
  simp [valC, this]
theorem valC_head {xs : List Int} {x : Int} (hx : xs[0]? = some x) (h : (x == 0) = false) : valC xs = false := by
  have : xs.getD 0 1 = x := by rw [List.getD_eq_getElem?_getD, hx]; rfl
  simp only [valC, this, h]; simp
theorem valC_ok {xs : List Int} {x : Int} (hl : xs.length = 2 ∨ xs.length = 4 ∨ xs.length = 8 ∨ xs.length = 16) (hx : xs[0]? = some x) (h : (x == 0) = true) (ha : xs.all inR = true) : valC xs = true := by
  have e : xs.getD 0 1 = x := by rw [List.getD_eq_getElem?_getD, hx]; rfl
  simp only [valC, e, h, ha]
  rcases hl with h | h | h | h <;> simp [h]
theorem all_take_succ {xs : List Int} {k : Nat} {x : Int} (hx : xs[k]? = some x) (h : (xs.take k).all inR = true) (hr : inR x = true) : (xs.take (k + 1)).all inR = true := by
  rw [take_succ' hx, List.all_append, h]; simp [hr]
theorem valC_iff {xs : List Int} : valC xs = true ↔ (xs.length = 2 ∨ xs.length = 4 ∨ xs.length = 8 ∨ xs.length = 16) ∧ xs.getD 0 1 = 0 ∧ ∀ x ∈ xs, 0 ≤ x ∧ x ≤ 1000 := by
  simp [valC, inR, and_assoc, or_assoc]
theorem valC_pow {c : List Int} (h : valC c = true) : c.length = 2 ^ plr c ∧ 1 ≤ plr c ∧ plr c ≤ 4 := by
  have h1 := (valC_iff.1 h).1
  unfold plr
  rw [if_pos h]
  rcases h1 with h | h | h | h <;> simp [h]
theorem take18 {xs : List Int} (h : xs.length ≤ 18) : xs.take 18 = xs := List.take_of_length_le h
theorem valC_take (xs : List Int) : valC (xs.take 18) = valC xs := by
  by_cases h : xs.length ≤ 18
  · rw [take18 h]
  · rw [valC_len (xs := xs) (by omega), valC_len (by rw [List.length_take]; omega)]


/- The orders of players and the sums over them: plain Lean. -/

/-- sums with the first k numbers of js added. -/
def addUp (sums js : List Int) : Nat → List Int
  | 0 => sums
  | k + 1 => (addUp sums js k).set k ((addUp sums js k).getD k 0 + js.getD k 0)
theorem addUp_length (sums js : List Int) (k : Nat) : (addUp sums js k).length = sums.length := by
  induction k with
  | zero => rfl
  | succ k ih => simp [addUp, ih]
theorem addUp_get (sums js : List Int) (k i : Nat) (hi : i < sums.length) : (addUp sums js k).getD i 0 = if i < k then sums.getD i 0 + js.getD i 0 else sums.getD i 0 := by
  induction k with
  | zero => simp [addUp]
  | succ k ih =>
    have hl := addUp_length sums js k
    simp only [addUp, List.getD_eq_getElem?_getD, List.getElem?_set] at ih ⊢
    by_cases h : k = i
    · subst h
      rw [if_pos rfl, if_pos (by omega), if_pos (by omega)]
      simp only [Option.getD_some]
      rw [ih, if_neg (by omega)]
    · rw [if_neg h, ih]
      split <;> split <;> first | rfl | omega

/-- All orders of n players that begin with pre, m being left to come. -/
def ext (n : Nat) : Nat → List Nat → List (List Nat)
  | 0, pre => [pre]
  | m + 1, pre => (List.range n).flatMap fun i => if i ∈ pre then [] else ext n m (pre ++ [i])
/-- The part of them whose next player is below i. -/
def extTo (n m : Nat) (pre : List Nat) (i : Nat) : List (List Nat) := (List.range i).flatMap fun i => if i ∈ pre then [] else ext n m (pre ++ [i])
theorem ext_eq (n m : Nat) (pre : List Nat) : ext n (m + 1) pre = extTo n m pre n := rfl
theorem extTo_succ (n m : Nat) (pre : List Nat) (i : Nat) : extTo n m pre (i + 1) = extTo n m pre i ++ (if i ∈ pre then [] else ext n m (pre ++ [i])) := by
  simp [extTo, List.range_succ]
theorem extTo_le (n m : Nat) (pre : List Nat) (i j : Nat) (h : i ≤ j) : (extTo n m pre i).length ≤ (extTo n m pre j).length := by
  induction j with
  | zero => obtain rfl : i = 0 := by omega
            exact Nat.le_refl _
  | succ j ih =>
    rcases Nat.lt_or_ge j i with h1 | h1
    · obtain rfl : i = j + 1 := by omega
      exact Nat.le_refl _
    · rw [extTo_succ, List.length_append]; have := ih h1; omega

/-- The sums after all orders of a list have been added. -/
def addAll (c : List Int) (n : Nat) (sums : List Int) (L : List (List Nat)) : List Int := L.foldl (fun s os => addUp s (joinL c os) n) sums
theorem addAll_append (c : List Int) (n : Nat) (sums : List Int) (L M : List (List Nat)) : addAll c n sums (L ++ M) = addAll c n (addAll c n sums L) M := by
  simp [addAll, List.foldl_append]
theorem addAll_length (c : List Int) (n : Nat) (sums : List Int) (L : List (List Nat)) : (addAll c n sums L).length = sums.length := by
  induction L generalizing sums with
  | nil => rfl
  | cons os L ih => simp only [addAll, List.foldl_cons] at ih ⊢; rw [ih, addUp_length]

theorem costs_get {c : List Int} (hcb : ∀ x ∈ c, 0 ≤ x ∧ x ≤ 1000) (i : Nat) : 0 ≤ c.getD i 0 ∧ c.getD i 0 ≤ 1000 := by
  rw [List.getD_eq_getElem?_getD]
  cases h : c[i]? with
  | none => simp
  | some x => exact hcb x (List.mem_of_getElem? h)
theorem joinL_bd {c : List Int} (hcb : ∀ x ∈ c, 0 ≤ x ∧ x ≤ 1000) (os : List Nat) : ∀ y ∈ joinL c os, -1000 ≤ y ∧ y ≤ 1000 := by
  unfold joinL
  suffices ∀ p : Nat × List Int, (∀ y ∈ p.2, -1000 ≤ y ∧ y ≤ 1000) → ∀ y ∈ (os.foldl (joinStep c) p).2, -1000 ≤ y ∧ y ≤ 1000 from
    this _ (by intro y hy; rw [List.mem_replicate] at hy; omega)
  induction os with
  | nil => intro p h; exact h
  | cons x os ih =>
    intro p h
    refine ih _ fun y hy => ?_
    rcases List.mem_or_eq_of_mem_set hy with hy | rfl
    · exact h y hy
    · have h1 := costs_get hcb (p.1 ||| 2 ^ x); have h2 := costs_get hcb p.1; omega
theorem getD_bd {l : List Int} {m : Int} (h : ∀ y ∈ l, -m ≤ y ∧ y ≤ m) (hm : 0 ≤ m) (i : Nat) : -m ≤ l.getD i 0 ∧ l.getD i 0 ≤ m := by
  rw [List.getD_eq_getElem?_getD]
  cases hh : l[i]? with
  | none => simp; omega
  | some x => exact h x (List.mem_of_getElem? hh)
theorem addUp_bd {sums js : List Int} {m : Int} (hs : ∀ y ∈ sums, -m ≤ y ∧ y ≤ m) (hj : ∀ y ∈ js, -1000 ≤ y ∧ y ≤ 1000) (hm : 0 ≤ m) (k : Nat) : ∀ y ∈ addUp sums js k, -(m + 1000) ≤ y ∧ y ≤ m + 1000 := by
  intro y hy
  obtain ⟨i, hi, rfl⟩ := List.getElem_of_mem hy
  rw [addUp_length] at hi
  have h := addUp_get sums js k i hi
  rw [List.getD_eq_getElem?_getD, List.getElem?_eq_getElem (by rw [addUp_length]; exact hi)] at h
  simp only [Option.getD_some] at h
  rw [h]
  have h1 := getD_bd hs hm i
  have h2 := getD_bd hj (by omega) i
  split <;> omega

/- Contract: the function that games.Shapley calls for each order. -/

set_option maxHeartbeats 800000 in
theorem shapley1_any (ad ac : Addr) (N cap n cap' Bc Bk Bs S : Nat) (c : List Int) (os : List Nat) (cnt : Int) (sums : List Int) (w : World)
    (hn : n ≤ 4) (hN : N = 2 ^ n) (hl : c.length = N) (hol : os.length = n) (hsl : sums.length = n)
    (hc : ∀ i x, c[i]? = some x → w.cell? (ac.add i) = some (.int .i64 x)) (ho : ∀ i x, os[i]? = some x → w.cell? (ad.add i) = some (.int .i64 (x : Nat)))
    (hos : ∀ x ∈ os, x < n) (hcb : ∀ x ∈ c, 0 ≤ x ∧ x ≤ 1000) (hcnt : 0 ≤ cnt ∧ cnt ≤ 1000) (hsb : ∀ y ∈ sums, -(1000 * cnt) ≤ y ∧ y ≤ 1000 * cnt)
    (bc : Blk w Bc 3 #[.int .i64 cnt]) (bk : Blk w Bk 69 #[.slice (some ac) N cap]) (bs : Blk w Bs 22 #[.slice (some ⟨S, 0, none⟩) n n]) (bS : Blk w S 3 (arr sums))
    (n1 : ac.block ≠ Bc) (n2 : ad.block ≠ Bc) (n3 : Bk ≠ Bc) (n4 : Bs ≠ Bc) (n5 : S ≠ Bc) (n6 : Bs ≠ S) :
    Calls Try.prog 59 #[.slice (some ad) n cap', .pointer (some ⟨Bc, 0, none⟩), .pointer (some ⟨Bk, 0, none⟩), .pointer (some ⟨Bs, 0, none⟩)] w fun e w' =>
      e = .returned (.tuple #[]) ∧ Blk w' Bc 3 #[.int .i64 (cnt + 1)] ∧ Blk w' S 3 (arr (addUp sums (joinL c os) n)) ∧ Kept w.heap.size [Bc, S] w w' := by
  obtain ⟨k0, k1⟩ := bk.at1
  obtain ⟨q0, q1⟩ := bc.at1
  have hbc := bc.lt
  have W1 : Kept w.heap.size [Bc, S] w (w.setCell ⟨Bc, 0, none⟩ (.int .i64 (cnt + 1))) := (Kept.refl _ _ _).setCell (.inl (by simp)) _
  have bk1 : Blk (w.setCell ⟨Bc, 0, none⟩ (.int .i64 (cnt + 1))) Bk 69 #[.slice (some ac) N cap] := bk.far n3 _
  have bs1 : Blk (w.setCell ⟨Bc, 0, none⟩ (.int .i64 (cnt + 1))) Bs 22 #[.slice (some ⟨S, 0, none⟩) n n] := bs.far n4 _
  have bS1 : Blk (w.setCell ⟨Bc, 0, none⟩ (.int .i64 (cnt + 1))) S 3 (arr sums) := bS.far n5 _
  have bc1 : Blk (w.setCell ⟨Bc, 0, none⟩ (.int .i64 (cnt + 1))) Bc 3 #[.int .i64 (cnt + 1)] := bc.set_ 0 _
  have cell1 : ∀ (p : Addr) (v : Value), p.block ≠ Bc → w.cell? p = some v → (w.setCell ⟨Bc, 0, none⟩ (.int .i64 (cnt + 1))).cell? p = some v := fun p v hp hv => (World.cell?_of_block (w := w) (Below.heap_setCell w ⟨Bc, 0, none⟩ _ p.block hp)).trans hv
  have hc1 : ∀ i x, c[i]? = some x → (w.setCell ⟨Bc, 0, none⟩ (.int .i64 (cnt + 1))).cell? (ac.add i) = some (.int .i64 x) := fun i x hx => cell1 _ _ (by rw [add_block]; exact n1) (hc i x hx)
  have ho1 : ∀ i x, os[i]? = some x → (w.setCell ⟨Bc, 0, none⟩ (.int .i64 (cnt + 1))).cell? (ad.add i) = some (.int .i64 (x : Nat)) := fun i x hx => cell1 _ _ (by rw [add_block]; exact n2) (ho i x hx)
  have hjb := joinL_bd hcb os
  have hz : (w.setCell ⟨Bc, 0, none⟩ (.int .i64 (cnt + 1))).heap.size = w.heap.size := by simp [World.setCell]
  obtain ⟨k2, k3⟩ := bk1.at1
  have HC := Lib.hid hc1
  have HO := Lib.hid ho1
  have HJB := Lib.hid hjb
  have HSB := Lib.hid hsb
  have HZ := Lib.hid hz
  have HSL := Lib.hid hsl
  have HB := Lib.hid (And.intro bk1 (And.intro bs1 (And.intro bS1 (And.intro bc1 W1))))
  have HX := Lib.hid (And.intro hN (And.intro hl (And.intro hol (And.intro hos hcb))))
  clear hc ho hc1 ho1 hjb hsb hz bk bs bS bc bk1 bs1 bS1 bc1 W1 cell1 k0 k1 hN hl hol hos hcb hsl
  go_enter Try.func59, Try.ntmps59
  go_wp2_with fail
  refine (join_any ad ac N cap n cap' c os _ hn HX.out.1 HX.out.2.1 HX.out.2.2.1 HC.out HO.out HX.out.2.2.2.1 HX.out.2.2.2.2).mono ?_
  rintro e w2 ⟨rfl, hJ, hb⟩
  rw [HZ.out] at hb hJ ⊢
  obtain ⟨bk1, bs1, bS1, bc1, W1⟩ := HB.out
  have W2 : Kept w.heap.size [Bc, S] w w2 := W1.trans (Kept.of_below hb _)
  have bs2 := bs1.below hb (by have := bs1.lt; rw [HZ.out] at this; exact this)
  have bS2 := bS1.below hb (by have := bS1.lt; rw [HZ.out] at this; exact this)
  have bc2 := bc1.below hb hbc
  have hS : S < w.heap.size := by have := bS1.lt; rw [HZ.out] at this; exact this
  have hBs : Bs < w.heap.size := by have := bs1.lt; rw [HZ.out] at this; exact this
  have H2 := Lib.hid (And.intro hJ (And.intro W2 (And.intro bs2 (And.intro bS2 bc2))))
  clear hJ hb W2 bs2 bS2 bc2 bk1 bs1 bS1 bc1 W1
  go_wp2
  go_loopw [13] (fun i wr => ∃ k : Nat, k ≤ n ∧ i = .int .i64 k ∧ Blk wr S 3 (arr (addUp sums (joinL c os) k)) ∧ Blk wr Bc 3 #[.int .i64 (cnt + 1)] ∧ Blk wr Bs 22 #[.slice (some ⟨S, 0, none⟩) n n] ∧ Blk wr w.heap.size 3 (arr (joinL c os)) ∧ Kept w.heap.size [Bc, S] w wr) (fun i _ => n - (intOf i).toNat)
  case atStart => exact ⟨0, Nat.zero_le _, rfl, H2.out.2.2.2.1, H2.out.2.2.2.2, H2.out.2.2.1, H2.out.1, H2.out.2.1⟩
  case round =>
    obtain ⟨k, h1, rfl, bS, bc, bs, bJ, hK⟩ := hrel
    by_cases hlt : k < n
    · have hjl : k < (joinL c os).length := by
        have := (joinP_bd c n os HX.out.2.2.2.1).2
        unfold joinP at this; rw [show joinL c os = (os.foldl (joinStep c) (0, List.replicate n 0)).2 from by rw [joinL, HX.out.2.2.1]]; omega
      have hul : k < (addUp sums (joinL c os) k).length := by rw [addUp_length, HSL.out]; exact hlt
      obtain ⟨x, hx⟩ : ∃ x, (joinL c os)[k]? = some x := ⟨_, List.getElem?_eq_getElem hjl⟩
      obtain ⟨z, hz⟩ : ∃ x, (addUp sums (joinL c os) k)[k]? = some x := ⟨_, List.getElem?_eq_getElem hul⟩
      have hxb := HJB.out x (List.mem_of_getElem? hx)
      have hzb := addUp_bd HSB.out HJB.out (by omega) k z (List.mem_of_getElem? hz)
      have c1 : wr.cell? ⟨w.heap.size, k, none⟩ = some (.int .i64 x) := by rw [bJ.cell, arr_get, hx]; rfl
      have c2 : wr.cell? ⟨S, k, none⟩ = some (.int .i64 z) := by rw [bS.cell, arr_get, hz]; rfl
      have f2 : wr.frozen? ⟨S, k, none⟩ = false := bS.frozen k
      obtain ⟨s1, s2⟩ := bs.at1
      have HNEW : Hid (addUp sums (joinL c os) (k + 1) = (addUp sums (joinL c os) k).set k (z + x)) := Lib.hid (by
        rw [addUp, List.getD_eq_getElem?_getD, List.getD_eq_getElem?_getD, hz, hx]; rfl)
      have H3 := Lib.hid (And.intro bS (And.intro bc (And.intro bs (And.intro bJ hK))))
      clear bS bc bs bJ hK hx hz hjl hul
      go_wp2
      go_roundw
      case rel =>
        obtain ⟨bS, bc, bs, bJ, hK⟩ := H3.out
        refine ⟨k + 1, by omega, by go_num, ?_, bc.far (by exact fun e => n5 e.symm) _, bs.far n6 _, bJ.far (by show w.heap.size ≠ S; omega) _, hK.setCell (.inl (by simp)) _⟩
        rw [HNEW.out, ← arr_set]
        exact bS.set_ k _
      case measure => simp [intOf]; omega
    · obtain rfl : k = n := by omega
      have H3 := Lib.hid (And.intro bS (And.intro bc hK))
      clear bS bc bs bJ hK
      go_wp2
      go_end0
      exact ⟨rfl, H3.out.2.1, H3.out.1, H3.out.2.2⟩

/- Contracts of the slice functions of Go's library that this seat's code calls: Index, Contains, Min, Max over ints. -/

set_option maxHeartbeats 400000 in
theorem index_any (A : Option Addr) (n cap : Nat) (xs : List Int) (y : Int) (w : World) (hl : xs.length = n) (hm : n ≤ 9223372036854775807) (h : Ints w A xs) :
    Calls Try.prog 66 #[.slice A n cap, .int .i64 y] w fun e w' => e = .returned (.int .i64 (idx xs y)) ∧ w = w' := by
  by_cases h0 : n = 0
  · subst h0
    obtain rfl : xs = [] := List.eq_nil_of_length_eq_zero hl
    go_enter Try.func66, Try.ntmps66
    go_wp2
    refine wp_loop_rounds 1 ?_
    rw [rounds_succ]
    go_wp2
    go_ret
    exact ⟨rfl, rfl⟩
  · obtain ⟨ad, rfl, hb, hc⟩ := h.some_ (by omega)
    have HC := Lib.hid hc
    have HL := Lib.hid hl
    clear hc hl h hb
    go_enter Try.func66, Try.ntmps66
    go_wp2
    go_loop [8] (fun i => ∃ k : Nat, k ≤ n ∧ i = .int .i64 k ∧ y ∉ xs.take k) (fun i => n - (intOf i).toNat)
    case atStart => exact ⟨0, Nat.zero_le _, rfl, by simp⟩
    case round =>
      obtain ⟨k, hk, rfl, hn⟩ := hrel
      have HN := Lib.hid hn
      clear hn
      by_cases hlt : k < n
      · obtain ⟨x, hx⟩ : ∃ x, xs[k]? = some x := ⟨_, List.getElem?_eq_getElem (by rw [HL.out]; exact hlt)⟩
        have hcell := HC.out k x hx
        have HX := Lib.hid hx
        clear hx
        by_cases he : y = x
        · subst he
          go_wp2
          go_ret
          exact ⟨ret_int (idx_hit HX.out HN.out).symm, rfl⟩
        · have hne : (y == x) = false := by simpa using he
          clear he
          go_wp2
          go_round
          case rel => exact ⟨k + 1, by omega, by go_num, nmem_take_succ HX.out HN.out (by simpa using hne)⟩
          case measure => simp [intOf]; omega
      · go_wp2
        go_ret
        exact ⟨ret_int (idx_miss (by have := HN.out; rwa [List.take_of_length_le (by rw [HL.out]; omega)] at this)).symm, rfl⟩

theorem contains_any (A : Option Addr) (n cap : Nat) (xs : List Int) (y : Int) (w : World) (hl : xs.length = n) (hm : n ≤ 9223372036854775807) (h : Ints w A xs) :
    Calls Try.prog 34 #[.slice A n cap, .int .i64 y] w fun e w' => e = .returned (.bool (has xs y)) ∧ w = w' := by
  rw [← idx_nonneg]
  go_enter Try.func34, Try.ntmps34
  go_wp2_with fail
  refine (index_any A n cap xs y _ hl hm h).mono ?_
  rintro e w' ⟨rfl, rfl⟩
  go_wp2_with fail
  go_ret
  exact ⟨rfl, rfl⟩

/- Contracts of slices.Min and slices.Max over costs. -/

set_option maxHeartbeats 400000 in
theorem minC_any (A : Option Addr) (n cap : Nat) (xs : List Int) (w : World) (hl : xs.length = n) (hp : 0 < n) (hm : n ≤ 9223372036854775807) (h : Ints w A xs) :
    Calls Try.prog 83 #[.slice A n cap] w fun e w' => e = .returned (.int .i64 (lmin xs)) ∧ w = w' := by
  obtain ⟨ad, rfl, hb, hc⟩ := h.some_ (by omega)
  obtain ⟨x0, hx0⟩ : ∃ x, xs[0]? = some x := ⟨_, List.getElem?_eq_getElem (by omega)⟩
  have c0 : w.cell? ad = some (.int .i64 x0) := hc 0 x0 hx0
  have e0 : lmin (xs.take 1) = x0 := by rw [take_succ' hx0]; simp [lmin]
  have HE := Lib.hid e0
  have HC := Lib.hid hc
  have HL := Lib.hid hl
  have HX0 := Lib.hid hx0
  clear hc hl h hb e0 hx0
  go_enter Try.func83, Try.ntmps83
  go_wp2
  go_loop [3, 4] (fun m i => ∃ k : Nat, 1 ≤ k ∧ k ≤ n ∧ i = .int .i64 k ∧ m = .int .i64 (lmin (xs.take k))) (fun _ i => n - (intOf i).toNat)
  case atStart => exact ⟨1, by omega, by omega, rfl, by rw [HE.out]⟩
  case round =>
    obtain ⟨k, hk1, hk, rfl, rfl⟩ := hrel
    by_cases hlt : k < n
    · obtain ⟨x, hx⟩ : ∃ x, xs[k]? = some x := ⟨_, List.getElem?_eq_getElem (by rw [HL.out]; exact hlt)⟩
      have hcell := HC.out k x hx
      have HT := Lib.hid (lmin_take hx (by omega))
      have HX := Lib.hid hx
      clear hx
      go_wp2
      go_round
      case rel => exact ⟨k + 1, by omega, by omega, by go_num, val_int (by rw [HT.out]; split <;> omega)⟩
      case measure => simp [intOf]; omega
    · have HT : Hid (lmin (xs.take k) = lmin xs) := Lib.hid (by rw [List.take_of_length_le (by rw [HL.out]; omega)])
      go_wp2
      go_ret
      exact ⟨ret_int HT.out, rfl⟩

set_option maxHeartbeats 400000 in
theorem maxC_any (A : Option Addr) (n cap : Nat) (xs : List Int) (w : World) (hl : xs.length = n) (hp : 0 < n) (hm : n ≤ 9223372036854775807) (h : Ints w A xs) :
    Calls Try.prog 84 #[.slice A n cap] w fun e w' => e = .returned (.int .i64 (lmax xs)) ∧ w = w' := by
  obtain ⟨ad, rfl, hb, hc⟩ := h.some_ (by omega)
  obtain ⟨x0, hx0⟩ : ∃ x, xs[0]? = some x := ⟨_, List.getElem?_eq_getElem (by omega)⟩
  have c0 : w.cell? ad = some (.int .i64 x0) := hc 0 x0 hx0
  have e0 : lmax (xs.take 1) = x0 := by rw [take_succ' hx0]; simp [lmax]
  have HE := Lib.hid e0
  have HC := Lib.hid hc
  have HL := Lib.hid hl
  have HX0 := Lib.hid hx0
  clear hc hl h hb e0 hx0
  go_enter Try.func84, Try.ntmps84
  go_wp2
  go_loop [3, 4] (fun m i => ∃ k : Nat, 1 ≤ k ∧ k ≤ n ∧ i = .int .i64 k ∧ m = .int .i64 (lmax (xs.take k))) (fun _ i => n - (intOf i).toNat)
  case atStart => exact ⟨1, by omega, by omega, rfl, by rw [HE.out]⟩
  case round =>
    obtain ⟨k, hk1, hk, rfl, rfl⟩ := hrel
    by_cases hlt : k < n
    · obtain ⟨x, hx⟩ : ∃ x, xs[k]? = some x := ⟨_, List.getElem?_eq_getElem (by rw [HL.out]; exact hlt)⟩
      have hcell := HC.out k x hx
      have HT := Lib.hid (lmax_take hx (by omega))
      have HX := Lib.hid hx
      clear hx
      go_wp2
      go_round
      case rel => exact ⟨k + 1, by omega, by omega, by go_num, val_int (by rw [HT.out]; split <;> omega)⟩
      case measure => simp [intOf]; omega
    · have HT : Hid (lmax (xs.take k) = lmax xs) := Lib.hid (by rw [List.take_of_length_le (by rw [HL.out]; omega)])
      go_wp2
      go_ret
      exact ⟨ret_int HT.out, rfl⟩

/- Contracts: valid and players of package games. -/

theorem has_len (n : Nat) : has [2, 4, 8, 16] (n : Int) = (decide (n = 2) || decide (n = 4) || decide (n = 8) || decide (n = 16)) := by
  unfold has
  rw [Bool.eq_iff_iff]
  simp
  omega

set_option maxHeartbeats 800000 in
theorem valid_any (A : Option Addr) (n cap : Nat) (xs : List Int) (w : World) (hl : xs.length = n) (hm : n ≤ 9223372036854775807) (h : Ints w A xs) :
    Calls Try.prog 56 #[.slice A n cap] w fun e w' => e = .returned (.bool (valC xs)) ∧ Below w.heap.size w w' := by
  have hI : Ints (w.alloc (.cells #[.int .i64 2, .int .i64 4, .int .i64 8, .int .i64 16] 3)) (some ⟨w.heap.size, 0, none⟩) [2, 4, 8, 16] := Blk.ints (xs := [2, 4, 8, 16]) (Blk.new w 3 _ rfl)
  have hI2 : Ints (w.alloc (.cells #[.int .i64 2, .int .i64 4, .int .i64 8, .int .i64 16] 3)) A xs := h.below ((Below.refl _ _).alloc (Nat.le_refl _) _)
  have HI := Lib.hid hI
  have HI2 := Lib.hid hI2
  have HL := Lib.hid hl
  clear hI hI2
  cases hh : has [2, 4, 8, 16] (n : Int)
  · have HH := Lib.hid hh
    have hv : valC xs = false := valC_len (by rw [has_len] at hh; simp at hh; omega)
    rw [hv]
    clear hh hv hl h
    go_enter Try.func56, Try.ntmps56
    go_wp2_with fail
    refine (contains_any _ 4 4 [2, 4, 8, 16] n _ rfl (by omega) HI.out).mono ?_
    rintro e w' ⟨rfl, rfl⟩
    rw [HH.out]
    go_wp2
    go_ret
    exact ⟨rfl, (Below.refl _ _).alloc (Nat.le_refl _) _⟩
  · have hn : n = 2 ∨ n = 4 ∨ n = 8 ∨ n = 16 := by rw [has_len] at hh; simp at hh; omega
    obtain ⟨x0, hx0⟩ : ∃ x, xs[0]? = some x := ⟨_, List.getElem?_eq_getElem (by omega)⟩
    obtain ⟨ad, rfl, hb, hc⟩ := h.some_ (by omega)
    have c0 : w.cell? ad = some (.int .i64 x0) := hc 0 x0 hx0
    have c0' : (w.alloc (.cells #[.int .i64 2, .int .i64 4, .int .i64 8, .int .i64 16] 3)).cell? ad = some (.int .i64 x0) := (World.cell?_alloc_lt _ _ _ (lt_of_cell c0)).trans c0
    have hpos : 0 < n := by omega
    have HN := Lib.hid hn
    have HH := Lib.hid hh
    have HX0 := Lib.hid hx0
    have hne : xs ≠ [] := by rintro rfl; simp at hl; omega
    have HNE := Lib.hid hne
    clear hn hh hx0 h hb hc hl hne c0
    cases h0 : (x0 == 0)
    · have HV := Lib.hid (valC_head HX0.out h0)
      rw [HV.out]
      go_enter Try.func56, Try.ntmps56
      go_wp2_with fail
      refine (contains_any _ 4 4 [2, 4, 8, 16] n _ rfl (by omega) HI.out).mono ?_
      rintro e w' ⟨rfl, rfl⟩
      rw [HH.out]
      go_wp2
      go_ret
      exact ⟨rfl, (Below.refl _ _).alloc (Nat.le_refl _) _⟩
    · by_cases h1 : 0 ≤ lmin xs
      · by_cases h2 : lmax xs ≤ 1000
        · have hv : valC xs = true := valC_ok (by rw [HL.out]; exact HN.out) HX0.out h0 (by
            rw [List.all_eq_true]
            intro x hx
            have a1 := (lmin_ge HNE.out 0).1 h1 x hx
            have a2 := (lmax_le HNE.out 1000).1 h2 x hx
            simp [inR, a1, a2])
          rw [hv]
          clear hv
          go_enter Try.func56, Try.ntmps56
          go_wp2_with fail
          refine (contains_any _ 4 4 [2, 4, 8, 16] n _ rfl (by omega) HI.out).mono ?_
          rintro e w' ⟨rfl, rfl⟩
          rw [HH.out]
          go_wp2_with fail
          refine (minC_any _ n cap xs _ HL.out hpos hm HI2.out).mono ?_
          rintro e w' ⟨rfl, rfl⟩
          go_wp2_with fail
          refine (maxC_any _ n cap xs _ HL.out hpos hm HI2.out).mono ?_
          rintro e w' ⟨rfl, rfl⟩
          go_wp2
          go_ret
          exact ⟨rfl, (Below.refl _ _).alloc (Nat.le_refl _) _⟩
        · have hv : valC xs = false := by
            rw [← Bool.not_eq_true, valC_iff]
            rintro ⟨_, _, ha⟩
            exact h2 ((lmax_le HNE.out 1000).2 fun x hx => (ha x hx).2)
          rw [hv]
          clear hv
          go_enter Try.func56, Try.ntmps56
          go_wp2_with fail
          refine (contains_any _ 4 4 [2, 4, 8, 16] n _ rfl (by omega) HI.out).mono ?_
          rintro e w' ⟨rfl, rfl⟩
          rw [HH.out]
          go_wp2_with fail
          refine (minC_any _ n cap xs _ HL.out hpos hm HI2.out).mono ?_
          rintro e w' ⟨rfl, rfl⟩
          go_wp2_with fail
          refine (maxC_any _ n cap xs _ HL.out hpos hm HI2.out).mono ?_
          rintro e w' ⟨rfl, rfl⟩
          go_wp2
          go_ret
          exact ⟨ret_bool (decide_eq_false (by omega)), (Below.refl _ _).alloc (Nat.le_refl _) _⟩
      · have hv : valC xs = false := by
          rw [← Bool.not_eq_true, valC_iff]
          rintro ⟨_, _, ha⟩
          exact h1 ((lmin_ge HNE.out 0).2 fun x hx => (ha x hx).1)
        rw [hv]
        clear hv
        go_enter Try.func56, Try.ntmps56
        go_wp2_with fail
        refine (contains_any _ 4 4 [2, 4, 8, 16] n _ rfl (by omega) HI.out).mono ?_
        rintro e w' ⟨rfl, rfl⟩
        rw [HH.out]
        go_wp2_with fail
        refine (minC_any _ n cap xs _ HL.out hpos hm HI2.out).mono ?_
        rintro e w' ⟨rfl, rfl⟩
        go_wp2
        go_ret
        exact ⟨rfl, (Below.refl _ _).alloc (Nat.le_refl _) _⟩

/-- players of costs of 2, 4, 8 or 16 numbers. -/
theorem players_any (A : Option Addr) (n k cap : Nat) (w : World) (h : n = 2 ∧ k = 1 ∨ n = 4 ∧ k = 2 ∨ n = 8 ∧ k = 3 ∨ n = 16 ∧ k = 4) :
    Calls Try.prog 57 #[.slice A n cap] w fun e w' => e = .returned (.int .i64 k) ∧ w = w' := by
  rcases h with ⟨rfl, rfl⟩ | ⟨rfl, rfl⟩ | ⟨rfl, rfl⟩ | ⟨rfl, rfl⟩
  all_goals
    go_enter Try.func57, Try.ntmps57
    go_wp2
    refine wp_loop_rounds 6 ?_
    repeat (rw [rounds_succ]; go_wp2)
    go_ret
    exact ⟨rfl, rfl⟩

/- Contract: slices.Clone of ints. -/

theorem info_int : (Try.prog.info? 3).map (fun i => (i.zero, i.size, i.bytes)) = some (some (.int .i64 0), 1, 8) := by kernel_rfl

theorem ints_one (xs : List Int) : ∀ u ∈ xs.map (Value.int .i64), u.oneCell' = true := ints_oneCell _ _

/-- A value that the call owns, as a slice. -/
theorem own_form {w : World} {base e size n : Nat} {v : Value} {xs : List Value} (h : w.ownsRow base e size v n xs) : ∃ A c, v = .slice A n c ∧ n ≤ c ∧ c ≤ 9223372036854775807 ∧ (A = none → n = 0 ∧ c = 0) := by
  rcases h.2 with ⟨rfl, rfl⟩ | ⟨g, cap, cur, rfl, _, _, h1, h2, _⟩
  · exact ⟨none, 0, rfl, by omega, by omega, fun _ => ⟨rfl, rfl⟩⟩
  · exact ⟨_, cap, rfl, h1, by unfold maxLen at h2; omega, fun h => by cases h⟩

set_option maxHeartbeats 400000 in
theorem clone_any (A : Option Addr) (n cap : Nat) (xs : List Int) (w : World) (hl : xs.length = n) (hm : n ≤ 1000000000) (h : Ints w A xs) :
    Calls Try.prog 35 #[.slice A n cap] w fun e w' => ∃ A' c, e = .returned (.slice A' n c) ∧ w'.ownsRow w.heap.size 3 1 (.slice A' n c) n (xs.map (Value.int .i64)) ∧ Below w.heap.size w w' := by
  have qT : ∀ (w : World) (a : Option Addr) (n c n' c' : Nat), (binOp .eql 22 (.slice a n c) (.slice none n' c')).run Try.prog w = .ok (.bool a.isNone) w := fun w a n c n' c' => Lib.run_eql_slice_nil w _ _ a n c n' c' Try.underlying22
  obtain ⟨i0, hi, hz0, hz1, hz2⟩ := info_parts info_int
  rcases A with _ | ad
  · have h0 : xs = [] := by
      cases xs with
      | nil => rfl
      | cons x l => obtain ⟨ad, e, _⟩ := h 0 (.int .i64 x) rfl; cases e
    subst h0
    obtain rfl : n = 0 := by simpa using hl.symm
    clear h hl
    go_enter Try.func35, Try.ntmps35
    go_wp2
    go_ret
    exact ⟨none, 0, rfl, World.ownsRow_nil _ _ _ _, Below.refl _ _⟩
  · have HL := Lib.hid hl
    have HC := Lib.hid (At.some2 h)
    clear hl h
    go_enter Try.func35, Try.ntmps35
    go_wp2_with (at_builtin; refine wpList_append_own _ rfl _ _ 22 rfl w.heap.size 3 i0 (.int .i64 0) 1 8 Try.underlying22 hi hz0 hz1 hz2 rfl (by decide) _ 0 [] rfl (World.ownsRow_made w #[] 0 (Nat.le_refl _) (by decide) rfl) ad n cap (xs.map (Value.int .i64)) rfl ?c1 ?c2 ?c3 ?c4 ?c5 ?c6 ?_)
    case c1 => simpa using HL.out
    case c2 => exact At.new HC.out
    case c3 => exact ints_one xs
    case c4 => unfold maxLen; omega
    case c5 => omega
    case c6 => go_size
    intro v' w1 hown hgrow _
    obtain ⟨A', c, rfl, _⟩ := own_form hown
    go_wp2
    go_ret
    refine ⟨A', c, by simp, by simpa using hown, ?_⟩
    exact (((Below.refl _ _).alloc (Nat.le_refl _) _)).grown hgrow (by go_size) (by intro k hk; simp [Value.ownBlock] at hk; omega)

theorem Ints.take {w : World} {A : Option Addr} {xs : List Int} (h : Ints w A xs) (k : Nat) : Ints w A (xs.take k) := by
  intro i v hv
  refine h i v ?_
  rw [List.map_take] at hv
  rw [List.getElem?_take] at hv
  split at hv
  · exact hv
  · cases hv

/- Contract: the function that lists the orders of the players (orders of package games, its inner function), called with the function of games.Shapley. -/

/-- The places of what the orders' function works on. -/
structure GX where
  ac : Addr
  N : Nat
  cap : Nat
  n : Nat
  Bc : Nat
  Bk : Nat
  Bs : Nat
  S : Nat
  Bo : Nat
  Bcb : Nat
  Bfb : Nat
  Bg : Nat
  base : Nat
  c : List Int

structure GX.ok (X : GX) : Prop where
  hn : X.n ≤ 4
  hn0 : 1 ≤ X.n
  hN : X.N = 2 ^ X.n
  hl : X.c.length = X.N
  hcb : ∀ x ∈ X.c, 0 ≤ x ∧ x ≤ 1000
  a1 : X.ac.block ≠ X.Bc
  a2 : X.ac.block ≠ X.S
  a3 : X.ac.block ≠ X.Bo
  a4 : X.ac.block < X.base
  nd : ∀ x ∈ [X.Bs, X.Bk, X.Bcb, X.Bfb, X.Bg], x ∉ [X.Bo, X.Bc, X.S]
  n1 : X.Bo ≠ X.Bc
  n2 : X.Bo ≠ X.S
  n3 : X.S ≠ X.Bc
  lt : ∀ x ∈ [X.Bo, X.Bc, X.S, X.Bs, X.Bk, X.Bcb, X.Bfb, X.Bg], x < X.base

def nats (xs : List Nat) : List Value := xs.map fun (x : Nat) => Value.int .i64 (x : Int)

/-- The fixed parts of memory. -/
structure GX.fix (X : GX) (w : World) : Prop where
  size : X.base ≤ w.heap.size
  bcb : Blk w X.Bcb 69 #[.slice (some X.ac) X.N X.cap]
  bfb : Blk w X.Bfb 72 #[.func (.func 59) #[] #[.pointer (some ⟨X.Bc, 0, none⟩), .pointer (some ⟨X.Bk, 0, none⟩), .pointer (some ⟨X.Bs, 0, none⟩)]]
  bg : Blk w X.Bg 1 #[.func (.func 85) #[] #[.pointer (some ⟨X.Bo, 0, none⟩), .pointer (some ⟨X.Bcb, 0, none⟩), .pointer (some ⟨X.Bfb, 0, none⟩), .pointer (some ⟨X.Bg, 0, none⟩)]]
  bk : Blk w X.Bk 69 #[.slice (some X.ac) X.N X.cap]
  bs : Blk w X.Bs 22 #[.slice (some ⟨X.S, 0, none⟩) X.n X.n]
  hc : ∀ i x, X.c[i]? = some x → w.cell? (X.ac.add i) = some (.int .i64 x)

/-- The count and the sums. -/
structure GX.acc (X : GX) (cnt : Int) (sums : List Int) (w : World) : Prop where
  bc : Blk w X.Bc 3 #[.int .i64 cnt]
  bS : Blk w X.S 3 (arr sums)
  c0 : 0 ≤ cnt
  sl : sums.length = X.n
  sb : ∀ y ∈ sums, -(1000 * cnt) ≤ y ∧ y ≤ 1000 * cnt

/-- The order so far. -/
def GX.pre (X : GX) (pre : List Nat) (w : World) : Prop := ∃ A k, Blk w X.Bo 22 #[.slice A pre.length k] ∧ w.ownsRow X.base 3 1 (.slice A pre.length k) pre.length (nats pre) ∧ pre.length ≤ k ∧ k ≤ 9223372036854775807

theorem GX.fix.kept {X : GX} {w w' : World} (h : X.fix w) (hx : X.ok) (hk : Kept X.base [X.Bo, X.Bc, X.S] w w') : X.fix w' := by
  have k : ∀ (g : Nat) (t : TypeId) (cs : Array Value), Blk w g t cs → g ∈ [X.Bs, X.Bk, X.Bcb, X.Bfb, X.Bg] → Blk w' g t cs := by
    intro g t cs hb hm
    exact hb.kept hk (hx.lt g (by simp only [List.mem_cons] at hm ⊢; exact .inr (.inr (.inr hm)))) (hx.nd g hm)
  exact {
    size := Nat.le_trans h.size hk.size
    bcb := k _ _ _ h.bcb (by simp)
    bfb := k _ _ _ h.bfb (by simp)
    bg := k _ _ _ h.bg (by simp)
    bk := k _ _ _ h.bk (by simp)
    bs := k _ _ _ h.bs (by simp)
    hc := fun i x hi => (hk.cell (by rw [add_block]; exact hx.a4) (by rw [add_block]; simp [hx.a1, hx.a2, hx.a3])).trans (h.hc i x hi) }

/-- What the walk of the inner function leaves: the count and the sums moved on by the orders of a list, the order so far as it was. -/
structure GX.post (X : GX) (pre : List Nat) (cnt : Int) (sums : List Int) (L : List (List Nat)) (w w' : World) : Prop where
  acc : X.acc (cnt + L.length) (addAll X.c X.n sums L) w'
  pre : X.pre pre w'
  kept : Kept X.base [X.Bo, X.Bc, X.S] w w'

theorem own_pop {w : World} {base e n k : Nat} {A : Option Addr} {xs : List Value} {y : Value} (h : w.ownsRow base e 1 (.slice A (n + 1) k) (n + 1) (xs ++ [y])) : w.ownsRow base e 1 (.slice A n k) n xs := by
  obtain ⟨hl, h⟩ := h
  have hl' : xs.length = n := by simp at hl; omega
  refine ⟨by omega, ?_⟩
  rcases h with ⟨_, h⟩ | ⟨g, cap, cur, hv, h1, h2, h3, h4, h5, h6⟩
  · omega
  · refine .inr ⟨g, cap, cur, ?_, h1, h2, by omega, h4, h5, ?_⟩
    · injection hv with e1 e2 e3; rw [e1, e3]
    · have := congrArg (List.take n) h6
      rw [List.take_take, List.take_append_of_le_length (by omega), List.take_of_length_le (l := xs) (by omega)] at this
      rw [Nat.mul_one]
      rw [← this]
      congr 1
      omega
theorem nats_snoc (xs : List Nat) (x : Nat) : nats (xs ++ [x]) = nats xs ++ [Value.int .i64 (x : Int)] := by simp [nats]
theorem nats_one (xs : List Nat) : ∀ u ∈ nats xs, u.oneCell' = true := by
  intro u hu
  simp only [nats, List.mem_map] at hu
  obtain ⟨x, _, rfl⟩ := hu
  rfl
/-- An owned row lies apart from older blocks, so it stays behind what leaves it alone. -/
theorem own_kept {w w' : World} {base e size n : Nat} {v : Value} {xs : List Value} (h : w.ownsRow base e size v n xs) (hk : ∀ g, base ≤ g → g < w.heap.size → w'.heap[g]? = w.heap[g]?) : w'.ownsRow base e size v n xs := by
  obtain ⟨h1, h2⟩ := h
  refine ⟨h1, ?_⟩
  rcases h2 with h2 | ⟨g, cap, cur, hv, a1, a2, a3⟩
  · exact .inl h2
  · exact .inr ⟨g, cap, cur, hv, a1, (hk g a1 (lt_of_block a2)).trans a2, a3⟩
theorem own_setCell {w : World} {base e size n : Nat} {v : Value} {xs : List Value} (h : w.ownsRow base e size v n xs) {p : Addr} (hp : p.block < base) (u : Value) : (w.setCell p u).ownsRow base e size v n xs :=
  own_kept h fun g hg _ => Below.heap_setCell w p u g (by omega)

/- Appending one element to a slice that the call owns, as one law for every element type. -/

/-- A slice type of the program: its element's type, zero value, cells and bytes. -/
structure STy (T e : TypeId) (z : Value) (size bytes : Nat) : Prop where
  ht : Try.prog.underlying T = some (.slice e)
  inf : (Try.prog.info? e).map (fun i => (i.zero, i.size, i.bytes)) = some (some z, size, bytes)
  hzs : z.cells.size = size
  hsz : 0 < size
  hby : bytes ≤ 100

theorem sty_int : STy 22 3 (.int .i64 0) 1 8 := ⟨Try.underlying22, info_int, rfl, by decide, by decide⟩

/-- What is owned stays owned while older or other blocks turn, and under a smaller base. -/
theorem own_mono {w : World} {base base' e size n : Nat} {v : Value} {xs : List Value} (h : w.ownsRow base e size v n xs) (hb : base' ≤ base) : w.ownsRow base' e size v n xs := by
  obtain ⟨h1, h2⟩ := h
  refine ⟨h1, ?_⟩
  rcases h2 with h2 | ⟨g, cap, cur, hv, a1, a3⟩
  · exact .inl h2
  · exact .inr ⟨g, cap, cur, hv, by omega, a3⟩
theorem own_below {w w' : World} {base e size n : Nat} {v : Value} {xs : List Value} (h : w.ownsRow base e size v n xs) (hb : Below w.heap.size w w') : w'.ownsRow base e size v n xs := by
  obtain ⟨h1, h2⟩ := h
  refine ⟨h1, ?_⟩
  rcases h2 with h2 | ⟨g, cap, cur, hv, a1, a2, a3⟩
  · exact .inl h2
  · exact .inr ⟨g, cap, cur, hv, a1, (hb.block g (lt_of_block a2)).trans a2, a3⟩

theorem own_some {w : World} {base e n c : Nat} {A : Option Addr} {xs : List Value} (h : w.ownsRow base e 1 (.slice A n c) n xs) (hn : 0 < n) : ∃ g, A = some ⟨g, 0, none⟩ ∧ base ≤ g ∧ g < w.heap.size := by
  rcases h.2 with ⟨_, h⟩ | ⟨g, cap, cur, hv, h1, h2, _⟩
  · omega
  · injection hv with e1
    exact ⟨g, e1, h1, lt_of_block h2⟩

theorem wp_app1 {T e : TypeId} {z : Value} {size bytes : Nat} (ty : STy T e z size bytes) {o : Oper} {a : Act} {K : Act → World → Prop} {Q : Exit → Act → World → Prop} {w : World}
    (s x : Operand) (ho : o.op = .call { callee := .builtin .append, args := #[s, x], argTypes := #[T, T] })
    (base : Nat) (A : Option Addr) (n k : Nat) (xs : List Value) (cs : Array Value) (hcs : cs.size = size) (h1 : ∀ u ∈ cs.toList, u.oneCell' = true)
    (hs : a.eval s = .slice A n k) (hown : w.ownsRow base e size (.slice A n k) n xs) (hx : a.eval x = .slice (some ⟨w.heap.size, 0, none⟩) 1 1)
    (hn : n ≤ 1000000) (hb : base ≤ w.heap.size)
    (h : ∀ (A' : Option Addr) (k' : Nat) (w' : World), w'.ownsRow base e size (.slice A' (n + 1) k') (n + 1) (xs ++ cs.toList) → w.grownBy w' (Value.slice A n k).ownBlock → Below base w w' → n + 1 ≤ k' → k' ≤ 9223372036854775807 →
      K (a.put o.dst (.slice A' (n + 1) k')) w') : o.wp Try.prog a (w.alloc (.cells cs e)) K Q := by
  obtain ⟨i0, hi, hz0, hz1, hz2⟩ := info_parts ty.inf
  refine wp_append_own _ s x T ho base e i0 z size bytes ty.ht hi hz0 hz1 hz2 ty.hzs ty.hsz _ n xs hs (hown.alloc _) ⟨w.heap.size, 0, none⟩ 1 1 cs.toList hx (by simpa using hcs) ?_ h1 (by unfold maxLen; omega) ?_ (by go_size) ?_
  · intro j u hu
    have hB := (Blk.new w e cs rfl).at_
    exact (At.some2 hB) j u hu
  · have h2 := ty.hby
    calc (n + 1) * bytes ≤ 1000001 * 100 := Nat.mul_le_mul (by omega) h2
      _ ≤ _ := by decide
  · intro v' w' hown' hg hv
    obtain ⟨A', k', rfl, hk, hk', _⟩ := own_form hown'
    have hg' : w.grownBy w' (Value.slice A n k).ownBlock :=
      ⟨hg.os, hg.tape, hg.output, Nat.le_trans (by simp) hg.size, fun b hb hne => (hg.block b (Nat.lt_of_lt_of_le hb (by simp)) hne).trans (Below.heap_alloc w _ b hb)⟩
    refine h A' k' w' hown' hg' ?_ hk hk'
    refine ⟨hg'.os, hg'.tape, hg'.output, hg'.size, fun b hb' => hg'.block b (by omega) fun he => ?_⟩
    have := (hown.lt b he.symm).1
    omega

theorem app1 {T e : TypeId} {z : Value} {size bytes : Nat} (ty : STy T e z size bytes) {ops : Array Oper} {rest : List Oper} {o : Oper} {a : Act} {Q : Exit → Act → World → Prop} {w : World}
    (hgd : o.guard = none) (s x : Operand) (ho : o.op = .call { callee := .builtin .append, args := #[s, x], argTypes := #[T, T] })
    (base : Nat) (A : Option Addr) (n k : Nat) (xs : List Value) (cs : Array Value) (hcs : cs.size = size) (h1 : ∀ u ∈ cs.toList, u.oneCell' = true)
    (hs : a.eval s = .slice A n k) (hown : w.ownsRow base e size (.slice A n k) n xs) (hx : a.eval x = .slice (some ⟨w.heap.size, 0, none⟩) 1 1)
    (hn : n ≤ 1000000) (hb : base ≤ w.heap.size)
    (h : ∀ (A' : Option Addr) (k' : Nat) (w' : World), w'.ownsRow base e size (.slice A' (n + 1) k') (n + 1) (xs ++ cs.toList) → w.grownBy w' (Value.slice A n k).ownBlock → Below base w w' → n + 1 ≤ k' → k' ≤ 9223372036854775807 →
      wpList Try.prog ops Q rest (a.put o.dst (.slice A' (n + 1) k')) w') : wpList Try.prog ops Q (o :: rest) a (w.alloc (.cells cs e)) :=
  wpList_plain hgd fun _ hK => wp_app1 ty s x ho base A n k xs cs hcs h1 hs hown hx hn hb fun A' k' w' a1 a2 a3 a4 a5 => hK _ _ (h A' k' w' a1 a2 a3 a4 a5)

/-- The same as one step of a region that draws its order. -/
theorem step_app1 {T e : TypeId} {z : Value} {size bytes : Nat} (ty : STy T e z size bytes) {ops : Array Oper} {o : Oper} {a : Act} {K : Act → World → Prop} {Q : Exit → Act → World → Prop} {E : Prop} {w : World}
    (hgd : o.guard = none) (s x : Operand) (ho : o.op = .call { callee := .builtin .append, args := #[s, x], argTypes := #[T, T] })
    (base : Nat) (A : Option Addr) (n k : Nat) (xs : List Value) (cs : Array Value) (hcs : cs.size = size) (h1 : ∀ u ∈ cs.toList, u.oneCell' = true)
    (hs : a.eval s = .slice A n k) (hown : w.ownsRow base e size (.slice A n k) n xs) (hx : a.eval x = .slice (some ⟨w.heap.size, 0, none⟩) 1 1)
    (hn : n ≤ 1000000) (hb : base ≤ w.heap.size)
    (h : ∀ (A' : Option Addr) (k' : Nat) (w' : World), w'.ownsRow base e size (.slice A' (n + 1) k') (n + 1) (xs ++ cs.toList) → w.grownBy w' (Value.slice A n k).ownBlock → Below base w w' → n + 1 ≤ k' → k' ≤ 9223372036854775807 →
      K (a.put o.dst (.slice A' (n + 1) k')) w') : if Region.wanted o (yielded ops a.tmps) = true then Oper.wp Try.prog o a (w.alloc (.cells cs e)) K Q else E := by
  have hw : Region.wanted o (yielded ops a.tmps) = true := by simp [Region.wanted, hgd]
  rw [if_pos hw]
  exact wp_app1 ty s x ho base A n k xs cs hcs h1 hs hown hx hn hb h

/- Contract: the inner function of orders, by induction on how many players are still to come. -/

theorem players_q (A : Option Addr) (n k cap m : Nat) (w : World) (h : n = 2 ∧ k = 1 ∨ n = 4 ∧ k = 2 ∨ n = 8 ∧ k = 3 ∨ n = 16 ∧ k = 4) :
    Calls Try.prog 57 #[.slice A n cap] (w.drewN m) fun e w'' => e = .returned (.int .i64 k) ∧ ∃ j, w'' = w.drewN j :=
  (players_any A n k cap _ h).mono fun _ _ hh => ⟨hh.1, m, hh.2.symm⟩

theorem GX.ok.np {X : GX} (hx : X.ok) : X.N = 2 ∧ X.n = 1 ∨ X.N = 4 ∧ X.n = 2 ∨ X.N = 8 ∧ X.n = 3 ∨ X.N = 16 ∧ X.n = 4 := by
  have h := hx.hN
  have h1 := hx.hn
  have h0 := hx.hn0
  generalize X.n = n at *
  generalize X.N = N at *
  subst h
  match n, h0, h1 with
  | 1, _, _ => simp
  | 2, _, _ => simp
  | 3, _, _ => simp
  | 4, _, _ => simp

theorem own_cells {w : World} {base e n g c : Nat} {xs : List Value} (h : w.ownsRow base e 1 (.slice (some ⟨g, 0, none⟩) n c) n xs) : ∀ j u, xs[j]? = some u → w.cell? ((⟨g, 0, none⟩ : Addr).add j) = some u := h.cells rfl

theorem nats_get {xs : List Nat} {i x : Nat} (h : xs[i]? = some x) : (nats xs)[i]? = some (Value.int .i64 (x : Int)) := by simp [nats, h]

set_option maxHeartbeats 800000 in
theorem grow_full (X : GX) (hx : X.ok) (pre : List Nat) (cnt : Int) (sums : List Int) (w : World) (hpl : pre.length = X.n) (hpn : ∀ x ∈ pre, x < X.n) (hf : X.fix w) (ha : X.acc cnt sums w) (hp : X.pre pre w) (hcnt : cnt ≤ 1000) :
    Calls Try.prog 85 #[.pointer (some ⟨X.Bo, 0, none⟩), .pointer (some ⟨X.Bcb, 0, none⟩), .pointer (some ⟨X.Bfb, 0, none⟩), .pointer (some ⟨X.Bg, 0, none⟩)] w fun e w' =>
      e = .returned (.tuple #[]) ∧ X.post pre cnt sums [pre] w w' := by
  obtain ⟨A, k, hbo, hown, hk1, hk2⟩ := hp
  rw [hpl] at hbo hown hk1
  obtain ⟨g, rfl, hg, hgw⟩ := own_some hown (by have := hx.hn0; omega)
  obtain ⟨o1, o2⟩ := hbo.at1
  obtain ⟨q1, q2⟩ := hf.bcb.at1
  obtain ⟨r1, r2⟩ := hf.bfb.at1
  have hn4 := hx.hn
  have hn0 := hx.hn0
  have HNP := Lib.hid hx.np
  have HH := Lib.hid (And.intro hx (And.intro hf (And.intro ha (And.intro hown hpn))))
  have HPL := Lib.hid hpl
  have HBO := Lib.hid hbo
  clear hx hf ha hown hpn hpl hbo
  go_enter Try.func85, Try.ntmps85
  go_wp2_with fail
  go_quiet ((go_at_call 57; exact players_q _ _ _ _ _ _ HNP.out))
  go_wp2_with fail
  obtain ⟨hx, hf, ha, hown, hpn⟩ := HH.out
  refine (shapley1_any ⟨g, 0, none⟩ X.ac X.N X.cap X.n k X.Bc X.Bk X.Bs X.S X.c pre cnt sums (w.drewN nq) hx.hn hx.hN hx.hl HPL.out ha.sl (fun i x hi => hf.hc i x hi) (fun i x hi => own_cells hown i _ (nats_get hi)) hpn hx.hcb ⟨ha.c0, hcnt⟩ ha.sb (ha.bc.drewN _) (hf.bk.drewN _) (hf.bs.drewN _) (ha.bS.drewN _) hx.a1 ?n2 ?n3 ?n4 hx.n3 ?n6).mono ?_
  case n2 => have := hx.lt X.Bc (by simp); show g ≠ X.Bc; omega
  case n3 => have := hx.nd X.Bk (by simp); simp at this; exact this.2.1
  case n4 => have := hx.nd X.Bs (by simp); simp at this; exact this.2.1
  case n6 => have := hx.nd X.Bs (by simp); simp at this; exact this.2.2
  rintro e w' ⟨rfl, h1, h2, h3⟩
  have HF := Lib.hid (And.intro h1 (And.intro h2 h3))
  clear h1 h2 h3 hx hf ha hown hpn
  go_wp2
  obtain ⟨hx, hf, ha, hown, hpn⟩ := HH.out
  obtain ⟨h1, h2, h3⟩ := HF.out
  refine bodyPost_ret (results_none rfl _ _ _) rfl ⟨rfl, ?_⟩
  have hk : Kept w.heap.size [X.Bc, X.S] w w' := ((Kept.refl _ _ w).drewN _).trans h3
  have hbo := hx.lt X.Bo (by simp)
  have hbc := hx.lt X.Bc (by simp)
  have hbS := hx.lt X.S (by simp)
  have hsz := hf.size
  exact {
    acc := {
      bc := by simpa using h1
      bS := h2
      c0 := by have := ha.c0; simp; omega
      sl := (addUp_length _ _ _).trans ha.sl
      sb := fun y hy => by
        have := addUp_bd ha.sb (joinL_bd hx.hcb pre) (by have := ha.c0; omega) X.n y hy
        simp only [List.length_singleton]; omega }
    pre := ⟨some ⟨g, 0, none⟩, k, by rw [HPL.out]; exact HBO.out.kept hk HBO.out.lt (by simp [hx.n1, hx.n2]), by
      rw [HPL.out]
      exact own_kept hown fun b h1 h2 => hk.block b h2 (by simp only [List.mem_cons, List.not_mem_nil, or_false]; omega), by rw [HPL.out]; exact hk1, hk2⟩
    kept := hk.mono hsz (by simp) }

/- Contract: the inner function of orders, whole. -/

theorem GX.fix.drewN {X : GX} {w : World} (h : X.fix w) (n : Nat) : X.fix (w.drewN n) := ⟨h.size, h.bcb, h.bfb, h.bg, h.bk, h.bs, h.hc⟩
theorem GX.acc.drewN {X : GX} {cnt : Int} {sums : List Int} {w : World} (h : X.acc cnt sums w) (n : Nat) : X.acc cnt sums (w.drewN n) := ⟨h.bc, h.bS, h.c0, h.sl, h.sb⟩
theorem GX.pre.drewN {X : GX} {pre : List Nat} {w : World} (h : X.pre pre w) (n : Nat) : X.pre pre (w.drewN n) := h

/-- The loop's relation. -/
structure GX.rel (X : GX) (pre : List Nat) (m : Nat) (cnt : Int) (sums : List Int) (w : World) (i : Nat) (wr : World) : Prop where
  acc : X.acc (cnt + (extTo X.n m pre i).length) (addAll X.c X.n sums (extTo X.n m pre i)) wr
  pre : X.pre pre wr
  kept : Kept X.base [X.Bo, X.Bc, X.S] w wr

theorem mem_nats (pre : List Nat) (i : Nat) : has (pre.map Int.ofNat) (i : Int) = decide (i ∈ pre) := by
  unfold has
  rw [decide_eq_decide, List.mem_map]
  constructor
  · rintro ⟨x, hx, h⟩
    obtain rfl : x = i := by have h2 : (x : Int) = (i : Int) := h; omega
    exact hx
  · intro h; exact ⟨i, h, rfl⟩
theorem nats_ints (pre : List Nat) : nats pre = (pre.map Int.ofNat).map (Value.int .i64) := by simp [nats]

set_option maxHeartbeats 1600000 in
theorem grow_any (X : GX) (hx : X.ok) (m : Nat) : ∀ (pre : List Nat) (cnt : Int) (sums : List Int) (w : World), pre.length + m = X.n → (∀ x ∈ pre, x < X.n) → X.fix w → X.acc cnt sums w → X.pre pre w → cnt + (ext X.n m pre).length ≤ 1000 →
    Calls Try.prog 85 #[.pointer (some ⟨X.Bo, 0, none⟩), .pointer (some ⟨X.Bcb, 0, none⟩), .pointer (some ⟨X.Bfb, 0, none⟩), .pointer (some ⟨X.Bg, 0, none⟩)] w fun e w' =>
      e = .returned (.tuple #[]) ∧ X.post pre cnt sums (ext X.n m pre) w w' := by
  induction m with
  | zero =>
    intro pre cnt sums w hpl hpn hf ha hp hcnt
    exact grow_full X hx pre cnt sums w (by omega) hpn hf ha hp (by simp [ext] at hcnt; omega)
  | succ m ih =>
    intro pre cnt sums w hpl hpn hf ha hp hcnt
    have IH := Lib.hid ih
    have hne : ((pre.length : Int) == (X.n : Int)) = false := by simp; omega
    obtain ⟨A, k, hbo, hown, hk1, hk2⟩ := hp
    obtain ⟨o1, o2⟩ := hbo.at1
    obtain ⟨q1, q2⟩ := hf.bcb.at1
    have hn4 := hx.hn
    have hn0 := hx.hn0
    have HNP := Lib.hid hx.np
    have HH := Lib.hid (And.intro hx (And.intro hf (And.intro ha (And.intro hown (And.intro hpn (And.intro hcnt hbo))))))
    have HPL := Lib.hid hpl
    clear hx hf ha hown hpn hpl hbo ih hcnt
    go_enter Try.func85, Try.ntmps85
    go_wp2_with fail
    go_quiet ((go_at_call 57; exact players_q _ _ _ _ _ _ HNP.out))
    go_wp2_with fail
    refine (players_any _ _ _ _ _ HNP.out).mono ?_
    rintro e w' ⟨rfl, rfl⟩
    go_wp2_with fail
    go_loopw [15] (fun iv wr => ∃ i : Nat, i ≤ X.n ∧ iv = .int .i64 i ∧ X.rel pre m cnt sums w i wr) (fun iv _ => X.n - (intOf iv).toNat)
    case atStart =>
      obtain ⟨hx, hf, ha, hown, hpn, hcnt, hbo⟩ := HH.out
      exact ⟨0, Nat.zero_le _, rfl, ⟨by simpa [extTo, addAll] using ha.drewN nq, ⟨A, k, hbo, hown, hk1, hk2⟩, (Kept.refl _ _ _).drewN _⟩⟩
    case round =>
      obtain ⟨i, hin, rfl, hR⟩ := hrel
      obtain ⟨hx, hf, ha, hown, hpn, hcnt, hbo⟩ := HH.out
      have HF := Lib.hid (hf.kept hx hR.kept)
      obtain ⟨A2, k2, hbo2, hown2, hk21, hk22⟩ := hR.pre
      obtain ⟨p1, p2⟩ := hbo2.at1
      have HR := Lib.hid hR
      have HO2 := Lib.hid (And.intro hown2 hbo2)
      clear hx hf ha hown hpn hcnt hbo hR hown2 hbo2
      by_cases hlt : i < X.n
      · by_cases hm : i ∈ pre
        · have HM := Lib.hid hm
          have hmem : has (pre.map Int.ofNat) (i : Int) = true := by rw [mem_nats]; simp [hm]
          clear hm
          go_wp2_with fail
          refine (contains_any A2 pre.length k2 (pre.map Int.ofNat) i _ (by simp) (by omega) (by unfold Ints; rw [← nats_ints]; exact At.of_own HO2.out.1)).mono ?_
          rintro e w' ⟨rfl, rfl⟩
          go_wp2
          go_roundw
          case rel =>
            have hR := HR.out
            exact ⟨i + 1, by omega, by go_num, ⟨by rw [extTo_succ, if_pos HM.out, List.append_nil]; exact hR.acc, hR.pre, hR.kept⟩⟩
          case measure => simp [intOf]; omega
        · have HM := Lib.hid hm
          have hmem : has (pre.map Int.ofNat) (i : Int) = false := by rw [mem_nats]; simp [hm]
          clear hm
          have hpl4 : pre.length ≤ 4 := by have := HPL.out; omega
          go_wp2_with fail
          refine (contains_any A2 pre.length k2 (pre.map Int.ofNat) i _ (by simp) (by omega) (by unfold Ints; rw [← nats_ints]; exact At.of_own HO2.out.1)).mono ?_
          rintro e w' ⟨rfl, rfl⟩
          have hbase := HF.out.size
          go_wp2_with (at_builtin; refine app1 sty_int rfl _ _ rfl X.base A2 pre.length k2 (nats pre) #[.int .i64 (i : Int)] rfl (by simp [Value.oneCell']) rfl HO2.out.1 rfl (by omega) hbase ?_)
          intro A3 k3 w3 hown3 _ hbl3 hk31 hk32
          have hx := HH.out.1
          have hbo3 : Blk w3 X.Bo 22 #[.slice A2 pre.length k2] := HO2.out.2.below hbl3 (hx.lt X.Bo (by simp))
          obtain ⟨s1, s2⟩ := hbo3.at1
          have hf3 : X.fix w3 := HF.out.kept hx (Kept.of_below hbl3 _)
          have hbo4 := hbo3.set_ 0 (.slice A3 (pre.length + 1) k3)
          have hlb := hx.lt X.Bo (by simp)
          have K4 : Kept X.base [X.Bo, X.Bc, X.S] w3 (w3.setCell ⟨X.Bo, 0, none⟩ (.slice A3 (pre.length + 1) k3)) := (Kept.refl _ _ _).setCell (.inl (by simp)) _
          have hf4 := hf3.kept hx K4
          obtain ⟨g1, g2⟩ := hf4.bg.at1
          have K0 : Kept X.base [X.Bo, X.Bc, X.S] w (w3.setCell ⟨X.Bo, 0, none⟩ (.slice A3 (pre.length + 1) k3)) := (HR.out.kept.trans (Kept.of_below hbl3 _)).trans K4
          have hacc : X.acc (cnt + (extTo X.n m pre i).length) (addAll X.c X.n sums (extTo X.n m pre i)) (w3.setCell ⟨X.Bo, 0, none⟩ (.slice A3 (pre.length + 1) k3)) := by
            have h := HR.out.acc
            exact ⟨(h.bc.below hbl3 (hx.lt X.Bc (by simp))).far (by exact fun e => hx.n1 e.symm) _, (h.bS.below hbl3 (hx.lt X.S (by simp))).far (by exact fun e => hx.n2 e.symm) _, h.c0, h.sl, h.sb⟩
          have hpre : X.pre (pre ++ [i]) (w3.setCell ⟨X.Bo, 0, none⟩ (.slice A3 (pre.length + 1) k3)) := by
            refine ⟨A3, k3, ?_, ?_, by simp; omega, hk32⟩
            · simpa using hbo4
            · rw [nats_snoc, List.length_append]
              exact own_setCell hown3 (by exact hlb) _
          have H4 := Lib.hid (And.intro hf4 (And.intro K0 (And.intro hacc hpre)))
          clear hown3 hbl3 hbo3 hf3 hbo4 K4 hf4 K0 hacc hpre hx hbase
          go_wp2_with fail
          obtain ⟨hf4, K0, hacc, hpre⟩ := H4.out
          have hle := extTo_le X.n m pre (i + 1) X.n (by omega)
          rw [extTo_succ, if_neg HM.out, List.length_append] at hle
          refine (IH.out (pre ++ [i]) _ _ _ (by simp; have := HPL.out; omega) (by
            intro x hxm
            rcases List.mem_append.1 hxm with h | h
            · exact HH.out.2.2.2.2.1 x h
            · simp at h; omega) hf4 hacc hpre (by have := HH.out.2.2.2.2.2.1; rw [ext_eq] at this; omega)).mono ?_
          rintro e w5 ⟨rfl, hpost⟩
          clear hf4 K0 hacc hpre hle
          obtain ⟨A6, k6, hbo6, hown6, hk61, hk62⟩ := hpost.pre
          rw [List.length_append, List.length_singleton] at hbo6 hown6 hk61
          rw [nats_snoc] at hown6
          obtain ⟨t1, t2⟩ := hbo6.at1
          have HP := Lib.hid hpost
          have HO6 := Lib.hid (And.intro (own_pop hown6) hbo6)
          clear hown6 hpost hbo6
          go_wp2
          go_roundw
          case rel =>
            have hx := HH.out.1
            have hpo := HP.out
            obtain ⟨hf4, K0, hacc, hpre⟩ := H4.out
            have K5 : Kept X.base [X.Bo, X.Bc, X.S] w5 (w5.setCell ⟨X.Bo, 0, none⟩ (.slice A6 pre.length k6)) := (Kept.refl _ _ _).setCell (.inl (by simp)) _
            have h := hpo.acc
            have e1 : cnt + (extTo X.n m pre (i + 1)).length = cnt + (extTo X.n m pre i).length + (ext X.n m (pre ++ [i])).length := by
              rw [extTo_succ, if_neg HM.out, List.length_append]; omega
            have e2 : addAll X.c X.n sums (extTo X.n m pre (i + 1)) = addAll X.c X.n (addAll X.c X.n sums (extTo X.n m pre i)) (ext X.n m (pre ++ [i])) := by
              rw [extTo_succ, if_neg HM.out, addAll_append]
            refine ⟨i + 1, by omega, by go_num, ⟨?_, ⟨A6, k6, ?_, ?_, by omega, hk62⟩, (K0.trans hpo.kept).trans K5⟩⟩
            · rw [e1, e2]
              exact ⟨h.bc.far (by exact fun e => hx.n1 e.symm) _, h.bS.far (by exact fun e => hx.n2 e.symm) _, h.c0, h.sl, h.sb⟩
            · exact HO6.out.2.set_ 0 _
            · exact own_setCell HO6.out.1 (by exact hx.lt X.Bo (by simp)) _
          case measure => simp [intOf]; omega
      · obtain rfl : i = X.n := by omega
        go_wp2
        go_end0
        have hR := HR.out
        exact ⟨rfl, ⟨by rw [ext_eq]; exact hR.acc, hR.pre, hR.kept⟩⟩

/- Contract: orders of package games, called with the function of games.Shapley. -/

set_option maxHeartbeats 800000 in
theorem orders_any (ac : Addr) (N cap n Bc Bk Bs S : Nat) (c : List Int) (sums : List Int) (w : World)
    (hn : n ≤ 4) (hn0 : 1 ≤ n) (hN : N = 2 ^ n) (hl : c.length = N) (hsl : sums.length = n) (hcb : ∀ x ∈ c, 0 ≤ x ∧ x ≤ 1000) (hsb : ∀ y ∈ sums, y = 0)
    (hL : (ext n n []).length ≤ 1000)
    (hc : ∀ i x, c[i]? = some x → w.cell? (ac.add i) = some (.int .i64 x)) (hac : ac.block < w.heap.size)
    (bc : Blk w Bc 3 #[.int .i64 0]) (bk : Blk w Bk 69 #[.slice (some ac) N cap]) (bs : Blk w Bs 22 #[.slice (some ⟨S, 0, none⟩) n n]) (bS : Blk w S 3 (arr sums))
    (n1 : ac.block ≠ Bc) (n2 : ac.block ≠ S) (n5 : S ≠ Bc) (m1 : Bs ≠ Bc) (m2 : Bs ≠ S) (m3 : Bk ≠ Bc) (m4 : Bk ≠ S) :
    Calls Try.prog 58 #[.slice (some ac) N cap, .func (.func 59) #[] #[.pointer (some ⟨Bc, 0, none⟩), .pointer (some ⟨Bk, 0, none⟩), .pointer (some ⟨Bs, 0, none⟩)]] w fun e w' =>
      e = .returned (.tuple #[]) ∧ Blk w' Bc 3 #[.int .i64 ((ext n n []).length : Nat)] ∧ Blk w' S 3 (arr (addAll c n sums (ext n n []))) ∧ (∀ y ∈ addAll c n sums (ext n n []), -1000000 ≤ y ∧ y ≤ 1000000) ∧ Kept w.heap.size [Bc, S] w w' := by
  obtain ⟨X, hX⟩ : ∃ X : GX, X = { ac := ac, N := N, cap := cap, n := n, Bc := Bc, Bk := Bk, Bs := Bs, S := S, Bo := w.heap.size + 1 + 1, Bcb := w.heap.size, Bfb := w.heap.size + 1, Bg := w.heap.size + 1 + 1 + 1, base := w.heap.size + 4, c := c } := ⟨_, rfl⟩
  have l1 := bc.lt
  have l2 := bk.lt
  have l3 := bs.lt
  have l4 := bS.lt
  have hx : X.ok := by
    subst hX
    exact ⟨hn, hn0, hN, hl, hcb, n1, n2, by show ac.block ≠ w.heap.size + 1 + 1; omega, by show ac.block < w.heap.size + 4; omega, by
      intro x hx
      simp only [List.mem_cons, List.not_mem_nil, or_false] at hx ⊢
      rcases hx with rfl | rfl | rfl | rfl | rfl <;> simp <;> omega, by show w.heap.size + 1 + 1 ≠ Bc; omega, by show w.heap.size + 1 + 1 ≠ S; omega, n5, by
      intro x hx
      simp only [List.mem_cons, List.not_mem_nil, or_false] at hx
      rcases hx with rfl | rfl | rfl | rfl | rfl | rfl | rfl | rfl <;> simp <;> omega⟩
  have HX := Lib.hid hX
  have H := Lib.hid (And.intro hx (And.intro hc (And.intro hac (And.intro bc (And.intro bk (And.intro bs (And.intro bS (And.intro hsl (And.intro hsb hL)))))))))
  clear hx hc bc bk bs bS hX hN hl hcb hsl hsb hL
  go_enter Try.func58, Try.ntmps58
  go_wp2_with fail
  have hX := HX.out
  obtain ⟨hx, hc, hac, bc, bk, bs, bS, hsl, hsb, hL⟩ := H.out
  subst hX
  have K4 : ∀ o1 o2 o3 o4, Below w.heap.size w ((((w.alloc o1).alloc o2).alloc o3).alloc o4) := fun o1 o2 o3 o4 =>
    ((((Below.refl _ _).alloc (by go_size) _).alloc (by go_size) _).alloc (by go_size) _).alloc (by go_size) _
  refine (grow_any _ hx n [] 0 sums _ (by simp) (by simp) ?fix ?acc ?pre (by show (0 : Int) + ((ext n n []).length : Nat) ≤ 1000; omega)).mono ?_
  case fix =>
    exact {
      size := by simp
      bcb := (((Blk.new _ _ _ rfl).alloc _).alloc _).alloc _
      bfb := ((Blk.new _ _ _ (by simp)).alloc _).alloc _
      bg := Blk.new _ _ _ (by simp)
      bk := bk.below (K4 _ _ _ _) l2
      bs := bs.below (K4 _ _ _ _) l3
      hc := fun i x hi => ((K4 _ _ _ _).cell (lt_of_cell (hc i x hi))).trans (hc i x hi) }
  case acc => exact ⟨bc.below (K4 _ _ _ _) l1, bS.below (K4 _ _ _ _) l4, by omega, hsl, fun y hy => by have := hsb y hy; omega⟩
  case pre => exact ⟨none, 0, (Blk.new _ _ _ (by simp)).alloc _, World.ownsRow_nil _ _ _ _, by simp, by omega⟩
  rintro e w' ⟨rfl, hp⟩
  have HP := Lib.hid (And.intro hp (K4 (.cells #[.slice (some ac) N cap] 69) (.cells #[.func (.func 59) #[] #[.pointer (some ⟨Bc, 0, none⟩), .pointer (some ⟨Bk, 0, none⟩), .pointer (some ⟨Bs, 0, none⟩)]] 72) (.cells #[.slice none 0 0] 22) (.cells #[.func (.func 85) #[] #[.pointer (some ⟨w.heap.size + 1 + 1, 0, none⟩), .pointer (some ⟨w.heap.size, 0, none⟩), .pointer (some ⟨w.heap.size + 1, 0, none⟩), .pointer (some ⟨w.heap.size + 1 + 1 + 1, 0, none⟩)]] 1)))
  clear hp hx hc hac bc bk bs bS hsl hsb hL
  go_wp2
  go_end0
  obtain ⟨hp, hb⟩ := HP.out
  obtain ⟨_, _, _, _, _, _, _, _, _, hL⟩ := H.out
  refine ⟨rfl, by simpa using hp.acc.bc, hp.acc.bS, fun y hy => by have h1 : -(1000 * (0 + ((ext n n []).length : Int))) ≤ y ∧ y ≤ 1000 * (0 + ((ext n n []).length : Int)) := hp.acc.sb y hy; omega, (Kept.of_below hb _).trans (hp.kept.mono (by simp) ?_)⟩
  intro x hx
  simp only [List.mem_cons, List.not_mem_nil, or_false] at hx ⊢
  rcases hx with rfl | rfl | rfl
  · exact .inr (by show w.heap.size ≤ w.heap.size + 1 + 1; omega)
  · exact .inl (.inl rfl)
  · exact .inl (.inr rfl)

/- Fractions in lowest terms are rational numbers: the plain law behind the walks over api.Frac. No program. -/

/-- A rational number as the program's fraction. -/
def fr (q : Rat) : Value := .agg #[.int .i64 q.num, .int .i64 (q.den : Int)]

theorem gcd_nat (a b : Int) : (Int.gcd a b : Int) = Nat.gcd a.natAbs b.natAbs := rfl
theorem gcd_step (a b : Int) : Int.gcd b (a.tmod b) = Int.gcd a b := by
  unfold Int.gcd
  rw [Int.natAbs_tmod, Nat.gcd_comm a.natAbs, ← Nat.gcd_rec b.natAbs a.natAbs |>.symm, Nat.gcd_comm]
theorem gcd_pos {a b : Int} (h : 0 < b) : 0 < (Int.gcd a b : Int) := by
  have := Int.gcd_pos_of_ne_zero_right a (show b ≠ 0 by omega); omega
theorem gcd_le {a b : Int} (h : 0 < b) : (Int.gcd a b : Int) ≤ b := by
  have h1 : Int.gcd a b ≤ b.natAbs := Nat.gcd_le_right _ (by omega)
  omega
theorem div_num {a b : Int} (h : 0 < b) : a.tdiv (Int.gcd a b) = (Rat.divInt a b).num := by
  rw [Rat.num_divInt, Int.gcd_comm b a, Int.sign_eq_one_of_pos h, Int.one_mul]
  exact Int.tdiv_eq_ediv_of_dvd (Int.gcd_dvd_left a b)
theorem div_den {a b : Int} (h : 0 < b) : b.tdiv (Int.gcd a b) = ((Rat.divInt a b).den : Int) := by
  rw [Rat.den_divInt, if_neg (by omega), Int.gcd_comm b a, Int.tdiv_eq_ediv_of_dvd (Int.gcd_dvd_right a b)]
  obtain ⟨n, rfl⟩ := Int.eq_ofNat_of_zero_le (Int.le_of_lt h)
  simp
theorem tdiv_bd {a g : Int} {m : Int} (h1 : -m ≤ a) (h2 : a ≤ m) : -m ≤ a.tdiv g ∧ a.tdiv g ≤ m := by
  have h3 : (a.tdiv g).natAbs ≤ a.natAbs := by rw [Int.natAbs_tdiv]; exact Nat.div_le_self _ _
  omega
theorem divInt_bd {a b : Int} (h : 0 < b) {m : Int} (h1 : -m ≤ a) (h2 : a ≤ m) : -m ≤ (Rat.divInt a b).num ∧ (Rat.divInt a b).num ≤ m := by
  rw [← div_num h]; exact tdiv_bd h1 h2
theorem divInt_den_le {a b : Int} (h : 0 < b) : ((Rat.divInt a b).den : Int) ≤ b := by
  rw [← div_den h]
  have := gcd_pos (a := a) h
  rw [Int.tdiv_eq_ediv_of_nonneg (by omega)]
  exact Int.ediv_le_self _ (by omega)
theorem fr_inj {p q : Rat} : fr p = fr q ↔ p = q := by
  constructor
  · intro h
    simp only [fr, Value.agg.injEq, Array.mk.injEq, List.cons.injEq, Value.int.injEq, true_and, and_true] at h
    exact Rat.ext h.1 (by omega)
  · rintro rfl; rfl
theorem den_pos (q : Rat) : 0 < (q.den : Int) := by have := q.den_pos; omega
theorem add_divInt (p q : Rat) : Rat.divInt (p.num * q.den + q.num * p.den) (p.den * q.den) = p + q := by
  rw [Rat.add_def', ← Rat.divInt_ofNat]; simp
theorem sub_divInt (p q : Rat) : Rat.divInt (p.num * q.den - q.num * p.den) (p.den * q.den) = p - q := by
  rw [Rat.sub_def', ← Rat.divInt_ofNat]; simp
theorem mul_divInt (p q : Rat) : Rat.divInt (p.num * q.num) (p.den * q.den) = p * q := by
  rw [Rat.mul_def', ← Rat.divInt_ofNat]; simp
theorem less_iff (p q : Rat) : decide (p.num * q.den < q.num * p.den) = decide (p < q) := by
  rw [decide_eq_decide]; exact (Rat.lt_iff p q).symm
/-- A pair in lowest terms is a rational number. -/
theorem lowest_rat {a b : Int} (h : 0 < b) (hg : Int.gcd a b = 1) : ∃ q : Rat, q.num = a ∧ (q.den : Int) = b := by
  refine ⟨Rat.divInt a b, ?_, ?_⟩
  · rw [← div_num h, hg]; simp
  · rw [← div_den h, hg]; simp
theorem rat_lowest (q : Rat) : Int.gcd q.num q.den = 1 := q.reduced
/-- A small product. -/
theorem mul_bd {a b m n : Int} (h1 : -m ≤ a) (h2 : a ≤ m) (h3 : 0 ≤ b) (h4 : b ≤ n) : -(m * n) ≤ a * b ∧ a * b ≤ m * n := by
  have hm : 0 ≤ m := by omega
  have ha : a.natAbs ≤ m.natAbs := by omega
  have hb : b.natAbs ≤ n.natAbs := by omega
  have h := Nat.mul_le_mul ha hb
  rw [← Int.natAbs_mul, ← Int.natAbs_mul] at h
  have : 0 ≤ m * n := Int.mul_nonneg hm (by omega)
  omega

/- Slices of fractions for the laws of append. -/

theorem info_frac : (Try.prog.info? 31).map (fun i => (i.zero, i.size, i.bytes)) = some (some (.agg #[.int .i64 0, .int .i64 0]), 2, 16) := by kernel_rfl
theorem sty_frac : STy 23 31 (.agg #[.int .i64 0, .int .i64 0]) 2 16 := ⟨Try.underlying23, info_frac, rfl, by decide, by decide⟩

/- Contracts of the fractions of the references (package corrodyref04): gcd, Of, Add, Sub, Mul, Less, Lowest. -/

set_option maxHeartbeats 400000 in
theorem rgcd_any (a b : Int) (w : World) (ha : 0 ≤ a) (hb : 0 ≤ b) (ha' : a ≤ 9223372036854775807) (hb' : b ≤ 9223372036854775807) :
    Calls Try.prog 62 #[.int .i64 a, .int .i64 b] w fun e w' => e = .returned (.int .i64 (Int.gcd a b)) ∧ ∃ n, w' = w.drewN n := by
  go_enter Try.func62, Try.ntmps62
  go_wp2
  go_loopw [0, 1] (fun x y wr => ∃ a' b' : Int, x = .int .i64 a' ∧ y = .int .i64 b' ∧ 0 ≤ a' ∧ a' ≤ 9223372036854775807 ∧ 0 ≤ b' ∧ b' ≤ 9223372036854775807 ∧ Int.gcd a' b' = Int.gcd a b ∧ ∃ n, wr = w.drewN n) (fun _ y _ => (intOf y).toNat)
  case atStart => exact ⟨a, b, rfl, rfl, ha, ha', hb, hb', rfl, 0, rfl⟩
  case round =>
    obtain ⟨a', b', rfl, rfl, h1, h2, h3, h4, hg, n, rfl⟩ := hrel
    have HG := Lib.hid hg
    clear hg
    by_cases h0 : b' = 0
    · subst h0
      go_wp2
      go_ret
      exact ⟨ret_int (by rw [← HG.out]; simp; omega), n, rfl⟩
    · have hr := Int.emod_nonneg a' h0
      have hr2 := Int.emod_lt_of_pos a' (show 0 < b' by omega)
      go_wp2
      go_quiet (fail)
      go_wp2
      go_roundw
      case rel => exact ⟨b', a' % b', rfl, by first | rfl | (rw [Int.tmod_eq_emod_of_nonneg h1]), h3, h4, hr, by omega, by rw [← HG.out, ← gcd_step a' b', Int.tmod_eq_emod_of_nonneg h1], n + _, World.drewN_drewN _ _ _⟩
      case measure => simp [intOf]; omega

set_option maxHeartbeats 400000 in
theorem rof_any (a b : Int) (w : World) (ha : -9223372036854775807 ≤ a) (ha' : a ≤ 9223372036854775807) (hb : 0 < b) (hb' : b ≤ 9223372036854775807) :
    Calls Try.prog 36 #[.int .i64 a, .int .i64 b] w fun e w' => e = .returned (fr (Rat.divInt a b)) ∧ Below w.heap.size w w' := by
  have hn := div_num (a := a) hb
  have hd := div_den (a := a) hb
  have hg := gcd_pos (a := a) hb
  have hgl := gcd_le (a := a) hb
  generalize hG : (Int.gcd a b : Int) = g at *
  generalize hQ : Rat.divInt a b = q at *
  rw [Int.tdiv_eq_ediv_of_nonneg (by omega)] at hd
  have HN := Lib.hid hn
  have HD := Lib.hid hd
  have HG := Lib.hid hG
  clear hn hd hG hQ
  go_enter Try.func36, Try.ntmps36
  by_cases h0 : a < 0
  · go_wp2_with fail
    refine (rgcd_any _ b _ (by omega) (by omega) (by omega) (by omega)).mono ?_
    rintro e w' ⟨rfl, n, rfl⟩
    rw [show ((-a).gcd b : Int) = g from by rw [Int.neg_gcd]; exact HG.out]
    go_wp2
    go_region
    go_wp2
    exact bodyPost_ret (v := fr q) (by simp [results, Try.results36, go_sem, fr, HN.out, HD.out]) rfl ⟨rfl, ((below_drewN ((Below.refl _ _).alloc (Nat.le_refl _) _) _).setCell (Nat.le_refl _) _).setCell (Nat.le_refl _) _⟩
  · have HN' : Hid (a / g = q.num) := Lib.hid (by rw [← HN.out, Int.tdiv_eq_ediv_of_nonneg (by omega)])
    go_wp2_with fail
    refine (rgcd_any _ b _ (by omega) (by omega) (by omega) (by omega)).mono ?_
    rintro e w' ⟨rfl, n, rfl⟩
    rw [show (a.gcd b : Int) = g from HG.out]
    go_wp2
    go_region
    go_wp2
    exact bodyPost_ret (v := fr q) (by simp [results, Try.results36, go_sem, fr, HN'.out, HD.out]) rfl ⟨rfl, ((below_drewN ((Below.refl _ _).alloc (Nat.le_refl _) _) _).setCell (Nat.le_refl _) _).setCell (Nat.le_refl _) _⟩

/-! arith -/
set_option maxHeartbeats 400000 in
theorem radd_raw (p q : Rat) (w : World) (h1 : -4000000000000000000 ≤ p.num * q.den) (h2 : p.num * q.den ≤ 4000000000000000000) (h3 : -4000000000000000000 ≤ q.num * p.den) (h4 : q.num * p.den ≤ 4000000000000000000) (h5 : (p.den : Int) * q.den ≤ 4000000000000000000) :
    Calls Try.prog 25 #[fr p, fr q] w fun e w' => e = .returned (fr (p + q)) ∧ Below w.heap.size w w' := by
  have hd : 0 < (p.den : Int) * q.den := Int.mul_pos (den_pos p) (den_pos q)
  have HL := Lib.hid (add_divInt p q)
  generalize hR : fr (p + q) = R
  have HR := Lib.hid hR
  clear hR
  unfold fr
  go_enter Try.func25, Try.ntmps25
  go_wp2_with fail
  refine (rof_any _ _ _ (by omega) (by omega) (by omega) (by omega)).mono ?_
  rintro e w' ⟨rfl, hb⟩
  rw [HL.out]
  have hB : Blk w' (w.heap.size + 1 + 1) 31 #[.int .i64 0, .int .i64 0] := (Blk.new _ _ _ (by simp)).below hb (by simp)
  obtain ⟨c0, c1, f0, f1⟩ := hB.at2
  have HB := Lib.hid hb
  clear hb hB
  unfold fr
  go_wp2
  refine bodyPost_ret (v := R) (by simp [results, Try.results25, go_sem, ← HR.out, fr, c0, c1]) rfl ⟨rfl, ?_⟩
  exact ((((((Below.refl _ _).alloc (by go_size) _).alloc (by go_size) _).alloc (by go_size) _).trans (HB.out.mono (by go_size))).setCell (by go_size) _).setCell (by go_size) _

set_option maxHeartbeats 400000 in
theorem rsub_raw (p q : Rat) (w : World) (h1 : -4000000000000000000 ≤ p.num * q.den) (h2 : p.num * q.den ≤ 4000000000000000000) (h3 : -4000000000000000000 ≤ q.num * p.den) (h4 : q.num * p.den ≤ 4000000000000000000) (h5 : (p.den : Int) * q.den ≤ 4000000000000000000) :
    Calls Try.prog 70 #[fr p, fr q] w fun e w' => e = .returned (fr (p - q)) ∧ Below w.heap.size w w' := by
  have hd : 0 < (p.den : Int) * q.den := Int.mul_pos (den_pos p) (den_pos q)
  have HL := Lib.hid (sub_divInt p q)
  generalize hR : fr (p - q) = R
  have HR := Lib.hid hR
  clear hR
  unfold fr
  go_enter Try.func70, Try.ntmps70
  go_wp2_with fail
  refine (rof_any _ _ _ (by omega) (by omega) (by omega) (by omega)).mono ?_
  rintro e w' ⟨rfl, hb⟩
  rw [HL.out]
  have hB : Blk w' (w.heap.size + 1 + 1) 31 #[.int .i64 0, .int .i64 0] := (Blk.new _ _ _ (by simp)).below hb (by simp)
  obtain ⟨c0, c1, f0, f1⟩ := hB.at2
  have HB := Lib.hid hb
  clear hb hB
  unfold fr
  go_wp2
  refine bodyPost_ret (v := R) (by simp [results, Try.results70, go_sem, ← HR.out, fr, c0, c1]) rfl ⟨rfl, ?_⟩
  exact ((((((Below.refl _ _).alloc (by go_size) _).alloc (by go_size) _).alloc (by go_size) _).trans (HB.out.mono (by go_size))).setCell (by go_size) _).setCell (by go_size) _

set_option maxHeartbeats 400000 in
theorem rmul_raw (p q : Rat) (w : World) (h1 : -4000000000000000000 ≤ p.num * q.num) (h2 : p.num * q.num ≤ 4000000000000000000) (h5 : (p.den : Int) * q.den ≤ 4000000000000000000) :
    Calls Try.prog 48 #[fr p, fr q] w fun e w' => e = .returned (fr (p * q)) ∧ Below w.heap.size w w' := by
  have hd : 0 < (p.den : Int) * q.den := Int.mul_pos (den_pos p) (den_pos q)
  have HL := Lib.hid (mul_divInt p q)
  generalize hR : fr (p * q) = R
  have HR := Lib.hid hR
  clear hR
  unfold fr
  go_enter Try.func48, Try.ntmps48
  go_wp2_with fail
  refine (rof_any _ _ _ (by omega) (by omega) (by omega) (by omega)).mono ?_
  rintro e w' ⟨rfl, hb⟩
  rw [HL.out]
  have hB : Blk w' (w.heap.size + 1 + 1) 31 #[.int .i64 0, .int .i64 0] := (Blk.new _ _ _ (by simp)).below hb (by simp)
  obtain ⟨c0, c1, f0, f1⟩ := hB.at2
  have HB := Lib.hid hb
  clear hb hB
  unfold fr
  go_wp2
  refine bodyPost_ret (v := R) (by simp [results, Try.results48, go_sem, ← HR.out, fr, c0, c1]) rfl ⟨rfl, ?_⟩
  exact ((((((Below.refl _ _).alloc (by go_size) _).alloc (by go_size) _).alloc (by go_size) _).trans (HB.out.mono (by go_size))).setCell (by go_size) _).setCell (by go_size) _

/- Contracts: Less, Lowest, whole, and the gcd and frac of package games. -/

set_option maxHeartbeats 400000 in
theorem rless_any (p q : Rat) (w : World) (h1 : -4000000000000000000 ≤ p.num * q.den) (h2 : p.num * q.den ≤ 4000000000000000000) (h3 : -4000000000000000000 ≤ q.num * p.den) (h4 : q.num * p.den ≤ 4000000000000000000) :
    Calls Try.prog 42 #[fr p, fr q] w fun e w' => e = .returned (.bool (decide (p < q))) ∧ Below w.heap.size w w' := by
  rw [← less_iff]
  unfold fr
  go_enter Try.func42, Try.ntmps42
  go_wp2
  go_ret
  exact ⟨rfl, ((Below.refl _ _).alloc (by go_size) _).alloc (by go_size) _⟩

/-- What Lowest answers of any pair. -/
def lowB (a b : Int) : Bool := decide (1 ≤ b) && decide (-4611686018427387904 < a) && ((Int.gcd a b : Int) == 1)

set_option maxHeartbeats 400000 in
theorem rlowest_any (a b : Int) (w : World) (ha : -9223372036854775808 ≤ a) (ha' : a ≤ 9223372036854775807) (hb' : b ≤ 9223372036854775807) :
    Calls Try.prog 22 #[.agg #[.int .i64 a, .int .i64 b]] w fun e w' => e = .returned (.bool (lowB a b)) ∧ Below w.heap.size w w' := by
  by_cases h1 : 1 ≤ b
  · by_cases h2 : -4611686018427387904 < a
    · have e : lowB a b = ((Int.gcd a b : Int) == 1) := by simp [lowB, h1, h2]
      rw [e]
      go_enter Try.func22, Try.ntmps22
      by_cases h0 : a < 0
      · go_wp2_with fail
        refine (rgcd_any _ b _ (by omega) (by omega) (by omega) (by omega)).mono ?_
        rintro e w' ⟨rfl, n, rfl⟩
        rw [show ((-a).gcd b : Int) = a.gcd b from by rw [Int.neg_gcd]]
        go_wp2
        go_ret
        exact ⟨rfl, below_drewN ((Below.refl _ _).alloc (by go_size) _) _⟩
      · go_wp2_with fail
        refine (rgcd_any _ b _ (by omega) (by omega) (by omega) (by omega)).mono ?_
        rintro e w' ⟨rfl, n, rfl⟩
        go_wp2
        go_ret
        exact ⟨rfl, below_drewN ((Below.refl _ _).alloc (by go_size) _) _⟩
    · have e : lowB a b = false := by simp [lowB, h2]
      rw [e]
      go_enter Try.func22, Try.ntmps22
      go_wp2
      go_ret
      exact ⟨rfl, (Below.refl _ _).alloc (by go_size) _⟩
  · have e : lowB a b = false := by simp [lowB, h1]
    rw [e]
    go_enter Try.func22, Try.ntmps22
    go_wp2
    go_ret
    exact ⟨rfl, (Below.refl _ _).alloc (by go_size) _⟩

theorem fr_int (n : Int) : fr (n : Rat) = .agg #[.int .i64 n, .int .i64 1] := rfl

theorem rwhole_any (n : Int) (w : World) : Calls Try.prog 63 #[.int .i64 n] w fun e w' => e = .returned (fr (n : Rat)) ∧ Below w.heap.size w w' := by
  rw [fr_int]
  go_enter Try.func63, Try.ntmps63
  go_wp2
  exact bodyPost_ret (v := .agg #[.int .i64 n, .int .i64 1]) (by simp [results, Try.results63, go_sem]) rfl ⟨rfl, (Below.refl _ _).alloc (Nat.le_refl _) _⟩
theorem lwhole_any (n : Int) (w : World) : Calls Try.prog 24 #[.int .i64 n] w fun e w' => e = .returned (fr (n : Rat)) ∧ Below w.heap.size w w' := by
  rw [fr_int]
  go_enter Try.func24, Try.ntmps24
  go_wp2
  exact bodyPost_ret (v := .agg #[.int .i64 n, .int .i64 1]) (by simp [results, Try.results24, go_sem]) rfl ⟨rfl, (Below.refl _ _).alloc (Nat.le_refl _) _⟩

set_option maxHeartbeats 400000 in
theorem ggcd_any (a b : Int) (w : World) (ha : -9223372036854775807 ≤ a) (ha' : a ≤ 9223372036854775807) (hb : -9223372036854775807 ≤ b) (hb' : b ≤ 9223372036854775807) :
    Calls Try.prog 86 #[.int .i64 a, .int .i64 b] w fun e w' => e = .returned (.int .i64 (Int.gcd a b)) ∧ ∃ n, w' = w.drewN n := by
  go_enter Try.func86, Try.ntmps86
  go_wp2
  go_loopw [0, 1] (fun x y wr => ∃ a' b' : Int, x = .int .i64 a' ∧ y = .int .i64 b' ∧ -9223372036854775807 ≤ a' ∧ a' ≤ 9223372036854775807 ∧ -9223372036854775807 ≤ b' ∧ b' ≤ 9223372036854775807 ∧ Int.gcd a' b' = Int.gcd a b ∧ ∃ n, wr = w.drewN n) (fun _ y _ => (intOf y).natAbs)
  case atStart => exact ⟨a, b, rfl, rfl, ha, ha', hb, hb', rfl, 0, rfl⟩
  case round =>
    obtain ⟨a', b', rfl, rfl, h1, h2, h3, h4, hg, n, rfl⟩ := hrel
    have HG := Lib.hid hg
    clear hg
    by_cases h0 : b' = 0
    · subst h0
      have HA : Hid ((Int.gcd a b : Int) = a'.natAbs) := Lib.hid (by rw [← HG.out]; simp)
      by_cases hs : a' < 0
      · go_wp2
        go_ret
        exact ⟨ret_int (by rw [HA.out]; omega), n, rfl⟩
      · go_wp2
        go_ret
        exact ⟨ret_int (by rw [HA.out]; omega), n, rfl⟩
    · have hr : (a'.tmod b').natAbs < b'.natAbs := by rw [Int.natAbs_tmod]; exact Nat.mod_lt _ (by omega)
      have HR := Lib.hid hr
      clear hr
      go_wp2
      go_quiet (fail)
      go_wp2
      go_roundw
      case rel => exact ⟨b', a'.tmod b', rfl, rfl, h3, h4, by have := HR.out; omega, by have := HR.out; omega, by rw [← HG.out, ← gcd_step a' b'], n + _, World.drewN_drewN _ _ _⟩
      case measure => have h := HR.out; rw [Int.natAbs_tmod] at h; simpa [intOf] using h

set_option maxHeartbeats 400000 in
theorem gfrac_any (a b : Int) (w : World) (ha : -9223372036854775807 ≤ a) (ha' : a ≤ 9223372036854775807) (hb : 0 < b) (hb' : b ≤ 9223372036854775807) :
    Calls Try.prog 61 #[.int .i64 a, .int .i64 b] w fun e w' => e = .returned (fr (Rat.divInt a b)) ∧ Below w.heap.size w w' := by
  have hn := div_num (a := a) hb
  have hd := div_den (a := a) hb
  have hg := gcd_pos (a := a) hb
  have hgl := gcd_le (a := a) hb
  generalize hG : (Int.gcd a b : Int) = g at *
  generalize hQ : Rat.divInt a b = q at *
  rw [Int.tdiv_eq_ediv_of_nonneg (by omega)] at hd
  have HN := Lib.hid hn
  have HD := Lib.hid hd
  have HG := Lib.hid hG
  clear hn hd hG hQ
  go_enter Try.func61, Try.ntmps61
  go_wp2_with fail
  refine (ggcd_any a b _ (by omega) (by omega) (by omega) (by omega)).mono ?_
  rintro e w' ⟨rfl, n, rfl⟩
  rw [show (a.gcd b : Int) = g from HG.out]
  by_cases h0 : a < 0
  · go_wp2
    go_region
    go_wp2
    exact bodyPost_ret (v := fr q) (by simp [results, Try.results61, go_sem, fr, HN.out, HD.out]) rfl ⟨rfl, ((below_drewN ((Below.refl _ _).alloc (Nat.le_refl _) _) _).setCell (Nat.le_refl _) _).setCell (Nat.le_refl _) _⟩
  · have HN' : Hid (a / g = q.num) := Lib.hid (by rw [← HN.out, Int.tdiv_eq_ediv_of_nonneg (by omega)])
    go_wp2
    go_region
    go_wp2
    exact bodyPost_ret (v := fr q) (by simp [results, Try.results61, go_sem, fr, HN'.out, HD.out]) rfl ⟨rfl, ((below_drewN ((Below.refl _ _).alloc (Nat.le_refl _) _) _).setCell (Nat.le_refl _) _).setCell (Nat.le_refl _) _⟩

/- The Shapley sums written out for one to four players, and the laws that they keep: plain Lean. -/


theorem len_cons {α : Type} {l : List α} {n : Nat} (h : l.length = n + 1) : ∃ a t, l = a :: t ∧ t.length = n := by
  cases l with
  | nil => simp at h
  | cons a t => exact ⟨a, t, rfl, by simpa using h⟩
theorem len_zero {α : Type} {l : List α} (h : l.length = 0) : l = [] := List.eq_nil_of_length_eq_zero h

/-- The sums over all orders. -/
def sumsL (c : List Int) (n : Nat) : List Int := addAll c n (List.replicate n 0) (ext n n [])

theorem list2 (l : List Int) (h : l.length = 2) : ∃ c0 c1 : Int, l = [c0, c1] := by
  obtain ⟨c0, l0, rfl, h0⟩ := len_cons h
  obtain ⟨c1, l1, rfl, h1⟩ := len_cons h0
  obtain rfl := len_zero h1
  exact ⟨c0, c1, rfl⟩
theorem sums1_raw (c0 c1 : Int) : sumsL [c0, c1] 1 = [(0 + (c1 - c0))] := by kernel_rfl
theorem sums1 (c0 c1 : Int) : sumsL [c0, c1] 1 = [(-1) * c0 + (1) * c1] := by
  rw [sums1_raw]
  simp only [List.cons.injEq, and_true]
  omega

theorem list4 (l : List Int) (h : l.length = 4) : ∃ c0 c1 c2 c3 : Int, l = [c0, c1, c2, c3] := by
  obtain ⟨c0, l0, rfl, h0⟩ := len_cons h
  obtain ⟨c1, l1, rfl, h1⟩ := len_cons h0
  obtain ⟨c2, l2, rfl, h2⟩ := len_cons h1
  obtain ⟨c3, l3, rfl, h3⟩ := len_cons h2
  obtain rfl := len_zero h3
  exact ⟨c0, c1, c2, c3, rfl⟩
theorem sums2_raw (c0 c1 c2 c3 : Int) : sumsL [c0, c1, c2, c3] 2 = [((0 + (c1 - c0)) + (c3 - c2)), ((0 + (c3 - c1)) + (c2 - c0))] := by kernel_rfl
theorem sums2 (c0 c1 c2 c3 : Int) : sumsL [c0, c1, c2, c3] 2 = [(-1) * c0 + (1) * c1 + (-1) * c2 + (1) * c3, (-1) * c0 + (-1) * c1 + (1) * c2 + (1) * c3] := by
  rw [sums2_raw]
  simp only [List.cons.injEq, and_true]
  omega

theorem list8 (l : List Int) (h : l.length = 8) : ∃ c0 c1 c2 c3 c4 c5 c6 c7 : Int, l = [c0, c1, c2, c3, c4, c5, c6, c7] := by
  obtain ⟨c0, l0, rfl, h0⟩ := len_cons h
  obtain ⟨c1, l1, rfl, h1⟩ := len_cons h0
  obtain ⟨c2, l2, rfl, h2⟩ := len_cons h1
  obtain ⟨c3, l3, rfl, h3⟩ := len_cons h2
  obtain ⟨c4, l4, rfl, h4⟩ := len_cons h3
  obtain ⟨c5, l5, rfl, h5⟩ := len_cons h4
  obtain ⟨c6, l6, rfl, h6⟩ := len_cons h5
  obtain ⟨c7, l7, rfl, h7⟩ := len_cons h6
  obtain rfl := len_zero h7
  exact ⟨c0, c1, c2, c3, c4, c5, c6, c7, rfl⟩
theorem sums3_raw (c0 c1 c2 c3 c4 c5 c6 c7 : Int) : sumsL [c0, c1, c2, c3, c4, c5, c6, c7] 3 = [((((((0 + (c1 - c0)) + (c1 - c0)) + (c3 - c2)) + (c7 - c6)) + (c5 - c4)) + (c7 - c6)), ((((((0 + (c3 - c1)) + (c7 - c5)) + (c2 - c0)) + (c2 - c0)) + (c7 - c5)) + (c6 - c4)), ((((((0 + (c7 - c3)) + (c5 - c1)) + (c7 - c3)) + (c6 - c2)) + (c4 - c0)) + (c4 - c0))] := by kernel_rfl
theorem sums3 (c0 c1 c2 c3 c4 c5 c6 c7 : Int) : sumsL [c0, c1, c2, c3, c4, c5, c6, c7] 3 = [(-2) * c0 + (2) * c1 + (-1) * c2 + (1) * c3 + (-1) * c4 + (1) * c5 + (-2) * c6 + (2) * c7, (-2) * c0 + (-1) * c1 + (2) * c2 + (1) * c3 + (-1) * c4 + (-2) * c5 + (1) * c6 + (2) * c7, (-2) * c0 + (-1) * c1 + (-1) * c2 + (-2) * c3 + (2) * c4 + (1) * c5 + (1) * c6 + (2) * c7] := by
  rw [sums3_raw]
  simp only [List.cons.injEq, and_true]
  omega

theorem list16 (l : List Int) (h : l.length = 16) : ∃ c0 c1 c2 c3 c4 c5 c6 c7 c8 c9 c10 c11 c12 c13 c14 c15 : Int, l = [c0, c1, c2, c3, c4, c5, c6, c7, c8, c9, c10, c11, c12, c13, c14, c15] := by
  obtain ⟨c0, l0, rfl, h0⟩ := len_cons h
  obtain ⟨c1, l1, rfl, h1⟩ := len_cons h0
  obtain ⟨c2, l2, rfl, h2⟩ := len_cons h1
  obtain ⟨c3, l3, rfl, h3⟩ := len_cons h2
  obtain ⟨c4, l4, rfl, h4⟩ := len_cons h3
  obtain ⟨c5, l5, rfl, h5⟩ := len_cons h4
  obtain ⟨c6, l6, rfl, h6⟩ := len_cons h5
  obtain ⟨c7, l7, rfl, h7⟩ := len_cons h6
  obtain ⟨c8, l8, rfl, h8⟩ := len_cons h7
  obtain ⟨c9, l9, rfl, h9⟩ := len_cons h8
  obtain ⟨c10, l10, rfl, h10⟩ := len_cons h9
  obtain ⟨c11, l11, rfl, h11⟩ := len_cons h10
  obtain ⟨c12, l12, rfl, h12⟩ := len_cons h11
  obtain ⟨c13, l13, rfl, h13⟩ := len_cons h12
  obtain ⟨c14, l14, rfl, h14⟩ := len_cons h13
  obtain ⟨c15, l15, rfl, h15⟩ := len_cons h14
  obtain rfl := len_zero h15
  exact ⟨c0, c1, c2, c3, c4, c5, c6, c7, c8, c9, c10, c11, c12, c13, c14, c15, rfl⟩
theorem sums4_raw (c0 c1 c2 c3 c4 c5 c6 c7 c8 c9 c10 c11 c12 c13 c14 c15 : Int) : sumsL [c0, c1, c2, c3, c4, c5, c6, c7, c8, c9, c10, c11, c12, c13, c14, c15] 4 = [((((((((((((((((((((((((0 + (c1 - c0)) + (c1 - c0)) + (c1 - c0)) + (c1 - c0)) + (c1 - c0)) + (c1 - c0)) + (c3 - c2)) + (c3 - c2)) + (c7 - c6)) + (c15 - c14)) + (c11 - c10)) + (c15 - c14)) + (c5 - c4)) + (c5 - c4)) + (c7 - c6)) + (c15 - c14)) + (c13 - c12)) + (c15 - c14)) + (c9 - c8)) + (c9 - c8)) + (c11 - c10)) + (c15 - c14)) + (c13 - c12)) + (c15 - c14)), ((((((((((((((((((((((((0 + (c3 - c1)) + (c3 - c1)) + (c7 - c5)) + (c15 - c13)) + (c11 - c9)) + (c15 - c13)) + (c2 - c0)) + (c2 - c0)) + (c2 - c0)) + (c2 - c0)) + (c2 - c0)) + (c2 - c0)) + (c7 - c5)) + (c15 - c13)) + (c6 - c4)) + (c6 - c4)) + (c15 - c13)) + (c14 - c12)) + (c11 - c9)) + (c15 - c13)) + (c10 - c8)) + (c10 - c8)) + (c15 - c13)) + (c14 - c12)), ((((((((((((((((((((((((0 + (c7 - c3)) + (c15 - c11)) + (c5 - c1)) + (c5 - c1)) + (c15 - c11)) + (c13 - c9)) + (c7 - c3)) + (c15 - c11)) + (c6 - c2)) + (c6 - c2)) + (c15 - c11)) + (c14 - c10)) + (c4 - c0)) + (c4 - c0)) + (c4 - c0)) + (c4 - c0)) + (c4 - c0)) + (c4 - c0)) + (c15 - c11)) + (c13 - c9)) + (c15 - c11)) + (c14 - c10)) + (c12 - c8)) + (c12 - c8)), ((((((((((((((((((((((((0 + (c15 - c7)) + (c11 - c3)) + (c15 - c7)) + (c13 - c5)) + (c9 - c1)) + (c9 - c1)) + (c15 - c7)) + (c11 - c3)) + (c15 - c7)) + (c14 - c6)) + (c10 - c2)) + (c10 - c2)) + (c15 - c7)) + (c13 - c5)) + (c15 - c7)) + (c14 - c6)) + (c12 - c4)) + (c12 - c4)) + (c8 - c0)) + (c8 - c0)) + (c8 - c0)) + (c8 - c0)) + (c8 - c0)) + (c8 - c0))] := by kernel_rfl
theorem sums4 (c0 c1 c2 c3 c4 c5 c6 c7 c8 c9 c10 c11 c12 c13 c14 c15 : Int) : sumsL [c0, c1, c2, c3, c4, c5, c6, c7, c8, c9, c10, c11, c12, c13, c14, c15] 4 = [(-6) * c0 + (6) * c1 + (-2) * c2 + (2) * c3 + (-2) * c4 + (2) * c5 + (-2) * c6 + (2) * c7 + (-2) * c8 + (2) * c9 + (-2) * c10 + (2) * c11 + (-2) * c12 + (2) * c13 + (-6) * c14 + (6) * c15, (-6) * c0 + (-2) * c1 + (6) * c2 + (2) * c3 + (-2) * c4 + (-2) * c5 + (2) * c6 + (2) * c7 + (-2) * c8 + (-2) * c9 + (2) * c10 + (2) * c11 + (-2) * c12 + (-6) * c13 + (2) * c14 + (6) * c15, (-6) * c0 + (-2) * c1 + (-2) * c2 + (-2) * c3 + (6) * c4 + (2) * c5 + (2) * c6 + (2) * c7 + (-2) * c8 + (-2) * c9 + (-2) * c10 + (-6) * c11 + (2) * c12 + (2) * c13 + (2) * c14 + (6) * c15, (-6) * c0 + (-2) * c1 + (-2) * c2 + (-2) * c3 + (-2) * c4 + (-2) * c5 + (-2) * c6 + (-6) * c7 + (6) * c8 + (2) * c9 + (2) * c10 + (2) * c11 + (2) * c12 + (2) * c13 + (2) * c14 + (6) * c15] := by
  rw [sums4_raw]
  simp only [List.cons.injEq, and_true]
  omega


/- What the Shapley payments keep: plain Lean. -/

theorem add_same (a b F : Int) : Rat.divInt a F + Rat.divInt b F = Rat.divInt (a + b) F := by
  rw [Rat.divInt_eq_div, Rat.divInt_eq_div, Rat.divInt_eq_div, Rat.intCast_add, Rat.div_def, Rat.div_def, Rat.div_def, Rat.add_mul]
theorem divInt_cancel (x : Int) {F : Int} (h : F ≠ 0) : Rat.divInt (F * x) F = (x : Rat) := by
  rw [Rat.divInt_eq_div, Rat.intCast_mul, Rat.mul_comm, Rat.mul_div_cancel (by exact_mod_cast h)]

/-- The payments. -/
def shapL (c : List Int) (n : Nat) : List Rat := (sumsL c n).map fun s => Rat.divInt s ((ext n n []).length : Nat)
theorem ext_len {n : Nat} (h : n ≤ 4) : 1 ≤ (ext n n []).length ∧ (ext n n []).length ≤ 24 := by
  match n, h with
  | 0, _ => decide
  | 1, _ => decide
  | 2, _ => decide
  | 3, _ => decide +kernel
  | 4, _ => decide +kernel
theorem shapL_length (c : List Int) (n : Nat) : (shapL c n).length = n := by
  unfold shapL sumsL; rw [List.length_map, addAll_length]; simp

theorem addAll_bd {c : List Int} (hcb : ∀ x ∈ c, 0 ≤ x ∧ x ≤ 1000) (n : Nat) (L : List (List Nat)) : ∀ (sums : List Int) (m : Int), 0 ≤ m → (∀ y ∈ sums, -m ≤ y ∧ y ≤ m) → ∀ y ∈ addAll c n sums L, -(m + 1000 * L.length) ≤ y ∧ y ≤ m + 1000 * L.length := by
  induction L with
  | nil => intro sums m hm h y hy; have := h y hy; simp; omega
  | cons os L ih =>
    intro sums m hm h y hy
    have := ih (addUp sums (joinL c os) n) (m + 1000) (by omega) (addUp_bd h (joinL_bd hcb os) hm n) y hy
    simp only [List.length_cons]
    omega
theorem sums_bd {c : List Int} (hcb : ∀ x ∈ c, 0 ≤ x ∧ x ≤ 1000) {n : Nat} (h : n ≤ 4) : ∀ y ∈ sumsL c n, -24000 ≤ y ∧ y ≤ 24000 := by
  intro y hy
  have h1 := addAll_bd hcb n (ext n n []) (List.replicate n 0) 0 (by omega) (by intro z hz; rw [List.mem_replicate] at hz; omega) y hy
  have h2 := ext_len h
  omega
/-- Small fractions. -/
def smallQ (q : Rat) : Prop := (q.den : Int) ≤ 24 ∧ -100000 ≤ q.num ∧ q.num ≤ 100000
theorem shapL_small {c : List Int} (hcb : ∀ x ∈ c, 0 ≤ x ∧ x ≤ 1000) {n : Nat} (h : n ≤ 4) : ∀ q ∈ shapL c n, smallQ q := by
  intro q hq
  simp only [shapL, List.mem_map] at hq
  obtain ⟨s, hs, rfl⟩ := hq
  have h1 := sums_bd hcb h s hs
  have h2 := ext_len h
  have hF : (0 : Int) < ((ext n n []).length : Nat) := by omega
  have h3 := divInt_den_le (a := s) hF
  have h4 := divInt_bd (a := s) hF (m := 24000) h1.1 h1.2
  exact ⟨by omega, by omega, by omega⟩

/-- The payment of a set. -/
def paysL (qs : List Rat) (set : Nat) : Rat := (List.range qs.length).foldl (fun s i => if set.testBit i then s + qs.getD i 0 else s) 0
def paysTo (qs : List Rat) (set k : Nat) : Rat := (List.range k).foldl (fun s i => if set.testBit i then s + qs.getD i 0 else s) 0
theorem paysTo_succ (qs : List Rat) (set k : Nat) : paysTo qs set (k + 1) = if set.testBit k then paysTo qs set k + qs.getD k 0 else paysTo qs set k := by
  simp [paysTo, List.range_succ]

theorem F1 : (ext 1 1 []).length = 1 := by decide
theorem F2 : (ext 2 2 []).length = 2 := by decide
theorem F3 : (ext 3 3 []).length = 6 := by decide +kernel
theorem F4 : (ext 4 4 []).length = 24 := by decide +kernel

set_option maxHeartbeats 4000000 in
/-- The payments of all sum to the cost of all. -/
theorem shap_sum {c : List Int} {n : Nat} (hn : 1 ≤ n ∧ n ≤ 4) (hl : c.length = 2 ^ n) (h0 : c.getD 0 0 = 0) : paysL (shapL c n) (2 ^ n - 1) = ((c.getD (2 ^ n - 1) 0 : Int) : Rat) := by
  have key : ∀ (s x F : Int), F ≠ 0 → s = F * x → Rat.divInt s F = (x : Rat) := fun s x F hF h => by rw [h, divInt_cancel x hF]
  match n, hn with
  | 1, _ =>
    obtain ⟨c0, c1, rfl⟩ := list2 c hl
    simp only [List.getD_cons_zero] at h0
    unfold shapL
    rw [sums1, F1]
    simp only [paysL, List.map_cons, List.map_nil, List.length_cons, List.length_nil, List.range_succ, List.range_zero, List.nil_append, List.foldl_cons, List.foldl_nil, List.getD_cons_zero, Rat.zero_add]
    rw [if_pos (by decide)]
    exact key _ _ _ (by decide) (by show _ = 1 * c1; omega)
  | 2, _ =>
    obtain ⟨c0, c1, c2, c3, rfl⟩ := list4 c hl
    simp only [List.getD_cons_zero] at h0
    unfold shapL
    rw [sums2, F2]
    simp only [paysL, List.map_cons, List.map_nil, List.length_cons, List.length_nil, List.range_succ, List.range_zero, List.nil_append, List.cons_append, List.foldl_cons, List.foldl_nil, List.getD_cons_zero, List.getD_cons_succ, Rat.zero_add]
    rw [if_pos (by decide), if_pos (by decide), add_same]
    exact key _ _ _ (by decide) (by show _ = 2 * c3; omega)
  | 3, _ =>
    obtain ⟨c0, c1, c2, c3, c4, c5, c6, c7, rfl⟩ := list8 c hl
    simp only [List.getD_cons_zero] at h0
    unfold shapL
    rw [sums3, F3]
    simp only [paysL, List.map_cons, List.map_nil, List.length_cons, List.length_nil, List.range_succ, List.range_zero, List.nil_append, List.cons_append, List.foldl_cons, List.foldl_nil, List.getD_cons_zero, List.getD_cons_succ, Rat.zero_add]
    rw [if_pos (by decide), if_pos (by decide), if_pos (by decide), add_same, add_same]
    exact key _ _ _ (by decide) (by show _ = 6 * c7; omega)
  | 4, _ =>
    obtain ⟨c0, c1, c2, c3, c4, c5, c6, c7, c8, c9, c10, c11, c12, c13, c14, c15, rfl⟩ := list16 c hl
    simp only [List.getD_cons_zero] at h0
    unfold shapL
    rw [sums4, F4]
    simp only [paysL, List.map_cons, List.map_nil, List.length_cons, List.length_nil, List.range_succ, List.range_zero, List.nil_append, List.cons_append, List.foldl_cons, List.foldl_nil, List.getD_cons_zero, List.getD_cons_succ, Rat.zero_add]
    rw [if_pos (by decide), if_pos (by decide), if_pos (by decide), if_pos (by decide), add_same, add_same, add_same]
    refine key _ c15 ((24 : Nat) : Int) (by decide) ?_
    omega

/- Contract: Shapley of package games. -/

/-- The cells of a row of fractions. -/
def fcells (qs : List Rat) : List Value := qs.flatMap fun q => [.int .i64 q.num, .int .i64 (q.den : Int)]
theorem fcells_snoc (qs : List Rat) (q : Rat) : fcells (qs ++ [q]) = fcells qs ++ [.int .i64 q.num, .int .i64 (q.den : Int)] := by simp [fcells]

theorem plr_np {xs : List Int} (h : valC xs = true) : xs.length = 2 ∧ plr xs = 1 ∨ xs.length = 4 ∧ plr xs = 2 ∨ xs.length = 8 ∧ plr xs = 3 ∨ xs.length = 16 ∧ plr xs = 4 := by
  have h1 := (valC_iff.1 h).1
  unfold plr
  rw [if_pos h]
  rcases h1 with h | h | h | h <;> simp [h]

set_option maxHeartbeats 1600000 in
theorem shapley_bad (A : Option Addr) (n cap : Nat) (xs : List Int) (w : World) (hl : xs.length = n) (hm : n ≤ 9223372036854775807) (h : Ints w A xs) (hv : valC xs = false) :
    Calls Try.prog 18 #[.slice A n cap] w fun e w' => e = .returned (.tuple #[.slice none 0 0, .int .i64 2]) ∧ Below w.heap.size w w' := by
  have hI : Ints (w.alloc (.cells #[.slice A n cap] 69)) A xs := h.below ((Below.refl _ _).alloc (by go_size) _)
  have HI := Lib.hid hI
  have HL := Lib.hid hl
  have HV := Lib.hid hv
  clear hI hl hv h
  go_enter Try.func18, Try.ntmps18
  go_wp2_with fail
  refine (valid_any A n cap xs _ HL.out hm HI.out).mono ?_
  rintro e w1 ⟨rfl, hb⟩
  rw [HV.out]
  have HB := Lib.hid hb
  clear hb
  go_wp2
  go_ret2
  exact ⟨rfl, ((Below.refl _ _).alloc (by go_size) _).trans (HB.out.mono (by go_size))⟩

set_option maxHeartbeats 1600000 in
theorem shapley_ok (A : Option Addr) (N cap : Nat) (xs : List Int) (w : World) (hl : xs.length = N) (h : Ints w A xs) (hv : valC xs = true) :
    Calls Try.prog 18 #[.slice A N cap] w fun e w' => ∃ A' c', e = .returned (.tuple #[.slice A' (plr xs) c', .int .i64 0]) ∧ w'.ownsRow w.heap.size 31 2 (.slice A' (plr xs) c') (plr xs) (fcells (shapL xs (plr xs))) ∧ Below w.heap.size w w' := by
  have hnp := plr_np hv
  rw [hl] at hnp
  obtain ⟨n, hn⟩ : ∃ n, n = plr xs := ⟨_, rfl⟩
  rw [← hn] at hnp ⊢
  obtain ⟨ac, rfl, hac, hc⟩ := h.some_ (by omega)
  have hI : Ints (w.alloc (.cells #[.slice (some ac) N cap] 69)) (some ac) xs := h.below ((Below.refl _ _).alloc (by go_size) _)
  have hn4 : n ≤ 4 := by omega
  have hn0 : 1 ≤ n := by omega
  have hNl : N ≤ 16 := by omega
  have hmk := make_ints n (by omega)
  have hN : N = 2 ^ n := by rcases hnp with ⟨h1, h2⟩ | ⟨h1, h2⟩ | ⟨h1, h2⟩ | ⟨h1, h2⟩ <;> rw [h1, h2] <;> rfl
  have hcb := (valC_iff.1 hv).2.2
  have hel := ext_len hn4
  have H := Lib.hid (And.intro hI (And.intro hl (And.intro hv (And.intro hnp (And.intro hN (And.intro hcb (And.intro hc (And.intro hac hel))))))))
  clear hI hl hv hnp hN hcb hn h hc hac hel
  go_enter Try.func18, Try.ntmps18
  go_wp2_with fail
  refine (valid_any (some ac) N cap xs _ H.out.2.1 (by omega) H.out.1).mono ?_
  rintro e w1 ⟨rfl, hb⟩
  rw [H.out.2.2.1]
  have hbk : Blk w1 w.heap.size 69 #[.slice (some ac) N cap] := (Blk.new _ _ _ rfl).below hb (by go_size)
  obtain ⟨k0, k1⟩ := hbk.at1
  have hw1 : Below w.heap.size w w1 := ((Below.refl _ _).alloc (by go_size) _).trans (hb.mono (by go_size))
  have hz1 := hbk.lt
  have H1 := Lib.hid (And.intro hbk hw1)
  clear hb hbk hw1
  go_wp2_with fail
  refine (players_any _ _ n _ _ H.out.2.2.2.1).mono ?_
  rintro e w' ⟨rfl, rfl⟩
  have B3 : ∀ o1 o2 o3, Below w1.heap.size w1 (((w1.alloc o1).alloc o2).alloc o3) := fun o1 o2 o3 => (((Below.refl _ _).alloc (by go_size) _).alloc (by go_size) _).alloc (by go_size) _
  have k2 : ∀ o1 o2 o3, (((w1.alloc o1).alloc o2).alloc o3).cell? ⟨w.heap.size, 0, none⟩ = some (.slice (some ac) N cap) := fun o1 o2 o3 => ((B3 o1 o2 o3).cell hz1).trans k0
  have HB3 := Lib.hid B3
  clear B3
  go_wp2_with fail
  clear k2
  have B3 := HB3.out
  obtain ⟨hI, hl, hv, hnp, hN, hcb, hc, hac, hel⟩ := H.out
  obtain ⟨hbk, hw1⟩ := H1.out
  have hacw := Nat.lt_of_lt_of_le hac hw1.size
  refine (orders_any ac N cap n (w1.heap.size + 1 + 1) w.heap.size (w1.heap.size + 1) w1.heap.size xs (List.replicate n 0) _ hn4 hn0 hN hl (by simp) hcb (by simp) (by omega)
    (fun i x hi => ((B3 _ _ _).cell (lt_of_cell ((hw1.cell (lt_of_cell (hc i x hi))).trans (hc i x hi)))).trans ((hw1.cell (lt_of_cell (hc i x hi))).trans (hc i x hi))) (by simp; omega)
    (Blk.new _ _ _ (by simp)) (hbk.below (B3 _ _ _) hz1) ((Blk.new _ _ _ (by simp)).alloc _) (((Blk.new _ _ _ rfl).alloc _).alloc _)
    (by omega) (by omega) (by omega) (by omega) (by omega) (by omega) (by omega)).mono ?_
  rintro e w2 ⟨rfl, hbc2, hbS2, hbd2, hK2⟩
  have hb2 : Below w1.heap.size w1 w2 := by
    have h := ((Kept.of_below (B3 (.cells (arr (List.replicate n 0)) 3) (.cells #[.slice (some ⟨w1.heap.size, 0, none⟩) n n] 22) (.cells #[.int .i64 0] 3)) []).trans (hK2.mono (by go_size) (by intro x hx; simp only [List.mem_cons, List.not_mem_nil, or_false] at hx; exact .inr (by omega))))
    exact h.below
  have hbs2 : Blk w2 (w1.heap.size + 1) 22 #[.slice (some ⟨w1.heap.size, 0, none⟩) n n] := ((Blk.new _ _ _ (by simp)).alloc _).kept hK2 (by simp) (by simp)
  have hW2 : Below w.heap.size w w2 := hw1.trans (hb2.mono hw1.size)
  have hzz := hbS2.lt
  have hbs2' := hbs2.lt
  have hbc2' := hbc2.lt
  obtain ⟨u0, u1⟩ := hbs2.at1
  have H2 := Lib.hid (And.intro hbc2 (And.intro hbS2 (And.intro hbd2 (And.intro hbs2 hW2))))
  have hwz : w.heap.size ≤ w2.heap.size := hW2.size
  clear hbc2 hbS2 hbd2 hK2 hb2 hbs2 hW2 B3 hI hl hv hnp hN hcb hc hac hel hbk hw1 HB3 k0 k1
  obtain ⟨cn, hcn⟩ : ∃ cn, cn = (ext n n []).length := ⟨_, rfl⟩
  rw [← hcn] at H2
  have hcn2 := H.out.2.2.2.2.2.2.2.2
  rw [← hcn] at hcn2
  have HCN := Lib.hid hcn
  clear hcn
  go_wp2
  go_loopw [7, 22] (fun ov iv wr => ∃ (k : Nat) (A : Option Addr) (cp : Nat), k ≤ n ∧ iv = .int .i64 k ∧ ov = .slice A k cp ∧ wr.ownsRow w2.heap.size 31 2 (.slice A k cp) k (fcells ((shapL xs n).take k)) ∧ Below w2.heap.size w2 wr) (fun _ iv _ => n - (intOf iv).toNat)
  case atStart => exact ⟨0, none, 0, Nat.zero_le _, rfl, rfl, by simpa [fcells] using World.ownsRow_nil _ _ _ _, Below.refl _ _⟩
  case round =>
    obtain ⟨k, A, cp, hkn, rfl, rfl, hown, hbl⟩ := hrel
    obtain ⟨hbc2, hbS2, hbd2, hbs2, hW2⟩ := H2.out
    by_cases hlt : k < n
    · have hsl : (sumsL xs n).length = n := by unfold sumsL; rw [addAll_length]; simp
      obtain ⟨x, hx⟩ : ∃ x, (sumsL xs n)[k]? = some x := ⟨_, List.getElem?_eq_getElem (by rw [hsl]; exact hlt)⟩
      have hxb := hbd2 x (List.mem_of_getElem? hx)
      have c1 : wr.cell? ⟨w1.heap.size, k, none⟩ = some (.int .i64 x) := by
        rw [(hbS2.below hbl hbS2.lt).cell, arr_get]
        show ((sumsL xs n)[k]?).map _ = _
        rw [hx]; rfl
      obtain ⟨c2, _⟩ := (hbc2.below hbl hbc2.lt).at1
      have hq : (shapL xs n)[k]? = some (Rat.divInt x cn) := by unfold shapL; rw [List.getElem?_map, hx, HCN.out]; rfl
      have HNEW : Hid (fcells ((shapL xs n).take (k + 1)) = fcells ((shapL xs n).take k) ++ [.int .i64 (Rat.divInt x cn).num, .int .i64 ((Rat.divInt x cn).den : Int)]) := Lib.hid (by
        rw [List.take_add_one, hq]; exact fcells_snoc _ _)
      have HR := Lib.hid (And.intro hown hbl)
      clear hown hbl hx hq hsl hbc2 hbS2 hbd2 hbs2 hW2
      go_wp2_with fail
      refine (gfrac_any x cn _ (by omega) (by omega) (by omega) (by omega)).mono ?_
      rintro e w3 ⟨rfl, hb3⟩
      generalize Rat.divInt x (cn : Int) = q at HNEW ⊢
      have hown3 := own_below HR.out.1 hb3
      have hbl3 : Below w2.heap.size w2 w3 := HR.out.2.trans (hb3.mono HR.out.2.size)
      have HR3 := Lib.hid (And.intro hown3 hbl3)
      have hw3 : w2.heap.size ≤ w3.heap.size := hbl3.size
      clear hown3 hbl3 hb3
      unfold fr
      go_wp2_with (at_builtin; refine app1 sty_frac rfl _ _ rfl w2.heap.size A k cp _ #[.int .i64 q.num, .int .i64 (q.den : Int)] rfl (by simp [Value.oneCell']) rfl HR3.out.1 rfl (by omega) hw3 ?_)
      intro A4 k4 w4 hown4 _ hbl4 hk41 hk42
      rw [← HNEW.out] at hown4
      have HR4 := Lib.hid (And.intro hown4 (HR3.out.2.trans hbl4))
      clear hown4 hbl4
      go_wp2
      go_roundw
      case rel => exact ⟨k + 1, A4, k4, by omega, by go_num, rfl, HR4.out.1, HR4.out.2⟩
      case measure => simp [intOf]; omega
    · obtain rfl : k = n := by omega
      have HR := Lib.hid (And.intro hown (hW2.trans (hbl.mono hwz)))
      clear hown hbl hbc2 hbS2 hbd2 hbs2 hW2
      go_wp2
      go_ret2
      refine ⟨A, cp, rfl, ?_, HR.out.2⟩
      have h := own_mono HR.out.1 hwz
      rwa [List.take_of_length_le (by unfold shapL sumsL; rw [List.length_map, addAll_length]; simp)] at h

/-- What Shapley returns, valid or not. -/
def ShR (xs : List Int) (base : Nat) (w : World) (A : Option Addr) (k c : Nat) (ec : Int) : Prop :=
  (valC xs = true ∧ ec = 0 ∧ k = plr xs ∧ w.ownsRow base 31 2 (.slice A k c) k (fcells (shapL xs (plr xs)))) ∨ (valC xs = false ∧ ec = 2 ∧ k = 0 ∧ A = none ∧ c = 0)
theorem shapley_any (A : Option Addr) (n cap : Nat) (xs : List Int) (w : World) (hl : xs.length = n) (hm : n ≤ 9223372036854775807) (h : Ints w A xs) :
    Calls Try.prog 18 #[.slice A n cap] w fun e w' => ∃ A' k c' ec, e = .returned (.tuple #[.slice A' k c', .int .i64 ec]) ∧ ShR xs w.heap.size w' A' k c' ec ∧ Below w.heap.size w w' := by
  cases hv : valC xs
  · exact (shapley_bad A n cap xs w hl hm h hv).mono fun _ _ hh => ⟨none, 0, 0, 2, hh.1, .inr ⟨hv, rfl, rfl, rfl, rfl⟩, hh.2⟩
  · exact (shapley_ok A n cap xs w hl h hv).mono fun _ _ ⟨A', c', h1, h2, h3⟩ => ⟨A', plr xs, c', 0, h1, .inl ⟨hv, rfl, rfl, h2⟩, h3⟩

/- Equality of lists, as a walk decides it. No program. -/

def eqB {α : Type} [DecidableEq α] (a b : List α) : Bool := decide (a = b)
theorem eqB_len {α : Type} [DecidableEq α] {a b : List α} (h : a.length ≠ b.length) : eqB a b = false := by
  unfold eqB; exact decide_eq_false fun e => h (by rw [e])
theorem eqB_at {α : Type} [DecidableEq α] {a b : List α} {k : Nat} {x y : α} (hx : a[k]? = some x) (hy : b[k]? = some y) (h : x ≠ y) : eqB a b = false := by
  unfold eqB; exact decide_eq_false fun e => h (by rw [e, hy] at hx; injection hx with hx; exact hx.symm)
theorem eqB_all {α : Type} [DecidableEq α] {a b : List α} {n : Nat} (ha : a.length = n) (hb : b.length = n) (h : a.take n = b.take n) : eqB a b = true := by
  unfold eqB; apply decide_eq_true
  rwa [List.take_of_length_le (by omega), List.take_of_length_le (by omega)] at h
theorem take_eq_succ {α : Type} {a b : List α} {k : Nat} {x : α} (hx : a[k]? = some x) (hy : b[k]? = some x) (h : a.take k = b.take k) : a.take (k + 1) = b.take (k + 1) := by
  rw [List.take_add_one, List.take_add_one, hx, hy, h]

/- Contracts: slices.Equal of ints and of fractions. -/

theorem fcells_at (qs : List Rat) (k : Nat) (q : Rat) (h : qs[k]? = some q) : (fcells qs)[k * 2]? = some (.int .i64 q.num) ∧ (fcells qs)[k * 2 + 1]? = some (.int .i64 (q.den : Int)) := by
  induction qs generalizing k with
  | nil => simp at h
  | cons p qs ih =>
    cases k with
    | zero => simp at h; subst h; simp [fcells]
    | succ k =>
      have := ih k (by simpa using h)
      have e1 : (k + 1) * 2 = k * 2 + 1 + 1 := by omega
      rw [e1]
      simpa [fcells] using this
/-- The slice at A reads as these fractions. -/
def Fracs (w : World) (A : Option Addr) (qs : List Rat) : Prop := At w A (fcells qs)
theorem Fracs.some_ {w : World} {A : Option Addr} {qs : List Rat} (h : Fracs w A qs) (hn : 0 < qs.length) : ∃ ad, A = some ad ∧ ad.block < w.heap.size ∧ ∀ i q, qs[i]? = some q → w.cell? (ad.add (i * 2)) = some (.int .i64 q.num) ∧ w.cell? ⟨(ad.add (i * 2)).block, (ad.add (i * 2)).off + 1, none⟩ = some (.int .i64 (q.den : Int)) := by
  have hl : 0 < (fcells qs).length := by
    cases qs with
    | nil => simp at hn
    | cons p qs => simp [fcells]
  obtain ⟨ad, e, hb, hc⟩ := At.some_ h hl
  refine ⟨ad, e, hb, fun i q hq => ?_⟩
  obtain ⟨h1, h2⟩ := fcells_at qs i q hq
  refine ⟨hc _ _ h1, ?_⟩
  have h3 := hc _ _ h2
  rw [← add_add] at h3
  exact h3
theorem Fracs.below {w w' : World} {A : Option Addr} {qs : List Rat} (h : Fracs w A qs) (hb : Below w.heap.size w w') : Fracs w' A qs := At.below h hb

/-- '==' and '!=' of two fractions. -/
def neB (p q : Rat) : Bool := decide (p ≠ q)
def eqQ (p q : Rat) : Bool := decide (p = q)
theorem rat_eq_iff (p q : Rat) : p = q ↔ p.num = q.num ∧ (p.den : Int) = (q.den : Int) :=
  ⟨by rintro rfl; exact ⟨rfl, rfl⟩, fun h => Rat.ext h.1 (by omega)⟩
theorem run_neq_frac (p q : Rat) (w : World) : (binOp .neq 31 (.agg #[.int .i64 p.num, .int .i64 (p.den : Int)]) (.agg #[.int .i64 q.num, .int .i64 (q.den : Int)])).run Try.prog w = .ok (.bool (neB p q)) w := by
  unfold neB
  have e0 : decide (p ≠ q) = !(decide (p.num = q.num) && decide ((p.den : Int) = (q.den : Int))) := by
    rw [Bool.eq_iff_iff]; simp only [ne_eq, rat_eq_iff, decide_eq_true_eq, Bool.not_eq_true', Bool.and_eq_false_iff, decide_eq_false_iff_not]
    exact Decidable.not_and_iff_not_or_not
  rw [e0]
  by_cases h1 : p.num = q.num
  · by_cases h2 : (p.den : Int) = (q.den : Int)
    · simp only [h1, h2]; go_simp
    · simp only [h1]; go_simp
  · go_simp

set_option maxHeartbeats 800000 in
theorem equalF_any (A A' : Option Addr) (n n' cap cap' : Nat) (ps qs : List Rat) (w : World) (hl : ps.length = n) (hl' : qs.length = n') (hm : n ≤ 1000000) (h : Fracs w A ps) (h' : Fracs w A' qs) :
    Calls Try.prog 29 #[.slice A n cap, .slice A' n' cap'] w fun e w' => e = .returned (.bool (eqB ps qs)) ∧ ∃ m, w' = w.drewN m := by
  by_cases hnn : n = n'
  · subst hnn
    by_cases h0 : n = 0
    · subst h0
      obtain rfl := List.eq_nil_of_length_eq_zero hl
      obtain rfl := List.eq_nil_of_length_eq_zero hl'
      go_enter Try.func29, Try.ntmps29
      go_wp2
      refine wp_loop_rounds 1 ?_
      rw [rounds_succ]
      go_wp2
      go_ret
      exact ⟨rfl, 0, rfl⟩
    · obtain ⟨ad, rfl, _, hc⟩ := h.some_ (by omega)
      obtain ⟨ad', rfl, _, hc'⟩ := h'.some_ (by omega)
      have H := Lib.hid (And.intro hl (And.intro hl' (And.intro hc hc')))
      clear hl hl' hc hc' h h'
      go_enter Try.func29, Try.ntmps29
      go_wp2
      go_loopw [13] (fun iv wr => ∃ k : Nat, k ≤ n ∧ iv = .int .i64 k ∧ ps.take k = qs.take k ∧ ∃ m, wr = w.drewN m) (fun iv _ => n - (intOf iv).toNat)
      case atStart => exact ⟨0, Nat.zero_le _, rfl, rfl, 0, rfl⟩
      case round =>
        obtain ⟨k, hk, rfl, ht, m, rfl⟩ := hrel
        have HT := Lib.hid ht
        clear ht
        obtain ⟨hl, hl', hc, hc'⟩ := H.out
        by_cases hlt : k < n
        · obtain ⟨p, hp⟩ : ∃ p, ps[k]? = some p := ⟨_, List.getElem?_eq_getElem (by omega)⟩
          obtain ⟨q, hq⟩ : ∃ q, qs[k]? = some q := ⟨_, List.getElem?_eq_getElem (by omega)⟩
          obtain ⟨c1, c2⟩ := hc k p hp
          obtain ⟨c3, c4⟩ := hc' k q hq
          have HP := Lib.hid (And.intro hp hq)
          clear hp hq hc hc' hl hl'
          by_cases he : p = q
          · subst he
            go_wp2
            go_region
            all_goals go_wp2
            go_roundw
            case rel => exact ⟨k + 1, by omega, by go_num, take_eq_succ HP.out.1 HP.out.2 HT.out, m + 1, rfl⟩
            case measure => simp [intOf]; omega
          · have HNE := Lib.hid he
            have hne : ∀ w, (binOp .neq 31 (.agg #[.int .i64 p.num, .int .i64 (p.den : Int)]) (.agg #[.int .i64 q.num, .int .i64 (q.den : Int)])).run Try.prog w = .ok (.bool true) w := fun w => by
              rw [run_neq_frac]; unfold neB; simp [he]
            clear he
            go_wp2
            go_region
            all_goals go_wp2
            go_ret
            exact ⟨ret_bool (eqB_at HP.out.1 HP.out.2 HNE.out).symm, m + 1, rfl⟩
        · obtain rfl : k = n := by omega
          have HF : Hid (eqB ps qs = true) := Lib.hid (eqB_all hl hl' HT.out)
          clear hl hl' hc hc'
          go_wp2
          go_ret
          exact ⟨ret_bool HF.out.symm, m, rfl⟩
  · have HF : Hid (eqB ps qs = false) := Lib.hid (eqB_len (by omega))
    have hne : ((n : Int) != (n' : Int)) = true := by rw [bne_iff_ne]; omega
    clear hl hl' h h'
    go_enter Try.func29, Try.ntmps29
    go_wp2
    go_ret
    exact ⟨ret_bool HF.out.symm, 0, rfl⟩

/- Bounds of sums of small fractions: plain Lean. -/

def DQ : Nat → Int
  | 0 => 1
  | k + 1 => DQ k * 24
def MQ : Nat → Int
  | 0 => 0
  | k + 1 => MQ k * 24 + 100000 * DQ k
/-- A sum of k small fractions. -/
def capQ (k : Nat) (p : Rat) : Prop := (p.den : Int) ≤ DQ k ∧ -MQ k ≤ p.num ∧ p.num ≤ MQ k
theorem DQ_pos (k : Nat) : 1 ≤ DQ k := by
  induction k with
  | zero => decide
  | succ k ih => simp only [DQ]; omega
theorem MQ_nonneg (k : Nat) : 0 ≤ MQ k := by
  induction k with
  | zero => decide
  | succ k ih => have := DQ_pos k; simp only [MQ]; omega
theorem cap_zero : capQ 0 0 := by unfold capQ; decide
theorem cap_keep {k : Nat} {p : Rat} (h : capQ k p) : capQ (k + 1) p := by
  obtain ⟨h1, h2, h3⟩ := h
  have := DQ_pos k
  have := MQ_nonneg k
  refine ⟨?_, ?_, ?_⟩ <;> simp only [DQ, MQ] <;> omega
theorem prod_bds {k : Nat} {p q : Rat} (h : capQ k p) (hq : smallQ q) : -(MQ k * 24) ≤ p.num * q.den ∧ p.num * q.den ≤ MQ k * 24 ∧ -(100000 * DQ k) ≤ q.num * p.den ∧ q.num * p.den ≤ 100000 * DQ k ∧ (p.den : Int) * q.den ≤ DQ k * 24 := by
  obtain ⟨h1, h2, h3⟩ := h
  obtain ⟨g1, g2, g3⟩ := hq
  have dp := den_pos p
  have dq := den_pos q
  have a1 := mul_bd h2 h3 (by omega) g1
  have a2 := mul_bd g2 g3 (by omega) h1
  have a3 := mul_bd (m := DQ k) (by omega) h1 (by omega) g1
  exact ⟨a1.1, a1.2, a2.1, a2.2, a3.2⟩
theorem cap_add {k : Nat} {p q : Rat} (h : capQ k p) (hq : smallQ q) : capQ (k + 1) (p + q) := by
  obtain ⟨a1, a2, a3, a4, a5⟩ := prod_bds h hq
  have hd : 0 < (p.den : Int) * q.den := Int.mul_pos (den_pos p) (den_pos q)
  rw [capQ, ← add_divInt]
  have b1 := divInt_bd (a := p.num * q.den + q.num * p.den) hd (m := MQ k * 24 + 100000 * DQ k) (by omega) (by omega)
  have b2 := divInt_den_le (a := p.num * q.den + q.num * p.den) hd
  exact ⟨by simp only [DQ]; omega, b1.1, b1.2⟩
theorem prod_bds_small {p q : Rat} (hp : smallQ p) (hq : smallQ q) : -4000000000000000000 ≤ p.num * q.den ∧ p.num * q.den ≤ 4000000000000000000 ∧ -4000000000000000000 ≤ q.num * p.den ∧ q.num * p.den ≤ 4000000000000000000 ∧ (p.den : Int) * q.den ≤ 4000000000000000000 := by
  have h1 : capQ 1 p := ⟨hp.1, hp.2.1, hp.2.2⟩
  have := prod_bds h1 hq
  have e1 : MQ 1 = 100000 := rfl
  have e2 : DQ 1 = 24 := rfl
  rw [e1, e2] at this
  omega
theorem DQ_le {k : Nat} (h : k ≤ 4) : DQ k ≤ 331776 ∧ MQ k ≤ 5529600000 := by
  match k, h with
  | 0, _ => decide
  | 1, _ => decide
  | 2, _ => decide
  | 3, _ => decide
  | 4, _ => decide
theorem cap_pays {qs : List Rat} (h : ∀ q ∈ qs, smallQ q) (set k : Nat) (hk : k ≤ qs.length) : capQ k (paysTo qs set k) := by
  induction k with
  | zero => exact cap_zero
  | succ k ih =>
    have h1 := ih (by omega)
    rw [paysTo_succ]
    split
    · have : qs.getD k 0 = qs[k] := by rw [List.getD_eq_getElem?_getD, List.getElem?_eq_getElem (by omega)]; rfl
      rw [this]
      exact cap_add h1 (h _ (List.getElem_mem _))
    · exact cap_keep h1
end Go.Proofs.Ytbidboagaoifaaa
