/- The memory that share (package split) works on. -/
import Derived.Test.YtkljambjdiblkaaSShared
import Derived.Test.YtkljambjdiblkaaMinMaxI
import Derived.Test.YtkljambjdiblkaaCloneD
namespace Go.Proofs.Ytkljambjdiblkaa
open Go.RowKit

theorem sumsTo_congr {l d d' : List Int} {n k : Nat} (h : ∀ i, i < k → d'.getD i 0 = d.getD i 0) : sumsTo l d' n k = sumsTo l d n k := by
  induction k with
  | zero => rfl
  | succ k ih => simp only [sumsTo]; rw [ih fun i hi => h i (by omega), h k (by omega)]
theorem getD_set (l : List Int) (i j : Nat) (y : Int) (h : i < l.length) : (l.set i y).getD j 0 = if j = i then y else l.getD j 0 := by
  rw [List.getD_eq_getElem?_getD, List.getElem?_set]
  by_cases e : i = j
  · subst e; simp [h]
  · rw [if_neg e, if_neg (fun h => e h.symm), List.getD_eq_getElem?_getD]
theorem getD_get {l : List Int} {i : Nat} (h : i < l.length) : l[i]? = some (l.getD i 0) := by
  rw [List.getD_eq_getElem?_getD, List.getElem?_eq_getElem h]; rfl

/-- What the search stands on. -/
structure SX where
  w0 : World
  ad : Addr
  B : Nat
  m : Nat
  n : Nat
  cap : Nat
  l : List Int
structure SX.ok (X : SX) : Prop where
  hB : X.B = X.w0.heap.size
  hm : 1 ≤ X.m ∧ X.m ≤ 7
  hn : 1 ≤ X.n ∧ X.n ≤ 7
  hl : X.l.length = X.m
  hlb : ∀ x ∈ X.l, 0 ≤ x ∧ x ≤ 100
  hI : Ints X.w0 (some X.ad) X.l

/-- What the inner function captures. -/
def SX.caps (X : SX) : Array Value := #[.pointer (some ⟨X.B, 0, none⟩), .pointer (some ⟨X.B + 7, 0, none⟩), .pointer (some ⟨X.B + 2, 0, none⟩), .pointer (some ⟨X.B + 5, 0, none⟩), .pointer (some ⟨X.B + 3, 0, none⟩), .pointer (some ⟨X.B + 1, 0, none⟩), .pointer (some ⟨X.B + 8, 0, none⟩)]

/-- The best so far. -/
def SX.found (X : SX) (b : Int) (pv : Value) (w : World) : Prop :=
  (b = -1 ∧ pv = .slice none 0 0) ∨
  (∃ (g c : Nat) (p : List Int), 0 ≤ b ∧ pv = .slice (some ⟨g, 0, none⟩) X.m c ∧ X.m ≤ c ∧ c ≤ 9223372036854775807 ∧ X.B + 8 < g ∧ p.length = X.m ∧ (∀ x ∈ p, 0 ≤ x ∧ x < X.n) ∧ Ints w (some ⟨g, 0, none⟩) p ∧ lmin (sumsTo X.l p X.n X.m) = b)

structure SX.st (X : SX) (dl s : List Int) (b : Int) (w : World) : Prop where
  bl : Blk w X.B 23 #[.slice (some X.ad) X.m X.cap]
  bn : Blk w (X.B + 1) 3 #[.int .i64 X.n]
  bb : Blk w (X.B + 2) 3 #[.int .i64 b]
  bd : Blk w (X.B + 4) 3 (arr dl)
  bD : Blk w (X.B + 5) 64 #[.slice (some ⟨X.B + 4, 0, none⟩) X.m X.m]
  bs : Blk w (X.B + 6) 3 (arr s)
  bS : Blk w (X.B + 7) 23 #[.slice (some ⟨X.B + 6, 0, none⟩) X.n X.n]
  bt : Blk w (X.B + 8) 95 #[.func (.func 92) #[] X.caps]
  fnd : ∃ pv, Blk w (X.B + 3) 64 #[pv] ∧ X.found b pv w
  bel : Below X.B X.w0 w
  dll : dl.length = X.m
  sl : s.length = X.n
  bm : -1 ≤ b

theorem SX.found.far {X : SX} {b : Int} {pv : Value} {w : World} (h : X.found b pv w) {p : Addr} (hp : p.block ≤ X.B + 8) (v : Value) : X.found b pv (w.setCell p v) := by
  rcases h with h | ⟨g, c, q, h1, h2, h3, h4, h5, h6, h7, h8, h9⟩
  · exact .inl h
  · exact .inr ⟨g, c, q, h1, h2, h3, h4, h5, h6, h7, ints_far h8 (fun ad ha => by injection ha with ha; subst ha; show g ≠ p.block; omega) _, h9⟩

theorem SX.st.drew {X : SX} {dl s : List Int} {b : Int} {w : World} (h : X.st dl s b w) : X.st dl s b w.drew :=
  ⟨h.bl, h.bn, h.bb, h.bd, h.bD, h.bs, h.bS, h.bt, h.fnd, h.bel.drew, h.dll, h.sl, h.bm⟩
/-- A good is put into a part. -/
theorem SX.st.put {X : SX} {dl s : List Int} {b : Int} {w : World} (h : X.st dl s b w) (i : Nat) (y : Int) : X.st (dl.set i y) s b (w.setCell ⟨X.B + 4, i, none⟩ (.int .i64 y)) := by
  obtain ⟨pv, h1, h2⟩ := h.fnd
  refine ⟨h.bl.far (by show X.B ≠ X.B + 4; omega) _, h.bn.far (by show X.B + 1 ≠ X.B + 4; omega) _, h.bb.far (by show X.B + 2 ≠ X.B + 4; omega) _, ?_, h.bD.far (by show X.B + 5 ≠ X.B + 4; omega) _,
    h.bs.far (by show X.B + 6 ≠ X.B + 4; omega) _, h.bS.far (by show X.B + 7 ≠ X.B + 4; omega) _, h.bt.far (by show X.B + 8 ≠ X.B + 4; omega) _, ⟨pv, h1.far (by show X.B + 3 ≠ X.B + 4; omega) _, h2.far (by show X.B + 4 ≤ X.B + 8; omega) _⟩,
    h.bel.setCell (by show X.B ≤ X.B + 4; omega) _, by rw [List.length_set]; exact h.dll, h.sl, h.bm⟩
  rw [← arr_set]; exact h.bd.set_ i _
/-- A part's worth is changed. -/
theorem SX.st.sum {X : SX} {dl s : List Int} {b : Int} {w : World} (h : X.st dl s b w) (i : Nat) (y : Int) : X.st dl (s.set i y) b (w.setCell ⟨X.B + 6, i, none⟩ (.int .i64 y)) := by
  obtain ⟨pv, h1, h2⟩ := h.fnd
  refine ⟨h.bl.far (by show X.B ≠ X.B + 6; omega) _, h.bn.far (by show X.B + 1 ≠ X.B + 6; omega) _, h.bb.far (by show X.B + 2 ≠ X.B + 6; omega) _, h.bd.far (by show X.B + 4 ≠ X.B + 6; omega) _, h.bD.far (by show X.B + 5 ≠ X.B + 6; omega) _,
    ?_, h.bS.far (by show X.B + 7 ≠ X.B + 6; omega) _, h.bt.far (by show X.B + 8 ≠ X.B + 6; omega) _, ⟨pv, h1.far (by show X.B + 3 ≠ X.B + 6; omega) _, h2.far (by show X.B + 6 ≤ X.B + 8; omega) _⟩,
    h.bel.setCell (by show X.B ≤ X.B + 6; omega) _, h.dll, by rw [List.length_set]; exact h.sl, h.bm⟩
  rw [← arr_set]; exact h.bs.set_ i _
theorem SX.st.size {X : SX} {dl s : List Int} {b : Int} {w : World} (h : X.st dl s b w) : X.B + 9 ≤ w.heap.size := by have := h.bt.lt; omega
/-- The best is new. -/
theorem SX.st.best {X : SX} {dl s : List Int} {b : Int} {w w2 : World} (h : X.st dl s b w) (hb : Below w.heap.size w w2) {g c : Nat} (hI : Ints w2 (some ⟨g, 0, none⟩) dl) (hg : w.heap.size ≤ g) (hc : X.m ≤ c) (hc2 : c ≤ 9223372036854775807)
    (hd : ∀ x ∈ dl, 0 ≤ x ∧ x < X.n) {v : Int} (hv : lmin (sumsTo X.l dl X.n X.m) = v) (h0 : 0 ≤ v) :
    X.st dl s v ((w2.setCell ⟨X.B + 2, 0, none⟩ (.int .i64 v)).setCell ⟨X.B + 3, 0, none⟩ (.slice (some ⟨g, 0, none⟩) X.m c)) := by
  have hs := h.size
  obtain ⟨pv, h1, _⟩ := h.fnd
  refine ⟨((h.bl.below hb (by omega)).far (by show X.B ≠ X.B + 2; omega) _).far (by show X.B ≠ X.B + 3; omega) _, ((h.bn.below hb (by omega)).far (by show X.B + 1 ≠ X.B + 2; omega) _).far (by show X.B + 1 ≠ X.B + 3; omega) _,
    ((h.bb.below hb (by omega)).set_ 0 _).far (by show X.B + 2 ≠ X.B + 3; omega) _, ((h.bd.below hb (by omega)).far (by show X.B + 4 ≠ X.B + 2; omega) _).far (by show X.B + 4 ≠ X.B + 3; omega) _,
    ((h.bD.below hb (by omega)).far (by show X.B + 5 ≠ X.B + 2; omega) _).far (by show X.B + 5 ≠ X.B + 3; omega) _, ((h.bs.below hb (by omega)).far (by show X.B + 6 ≠ X.B + 2; omega) _).far (by show X.B + 6 ≠ X.B + 3; omega) _,
    ((h.bS.below hb (by omega)).far (by show X.B + 7 ≠ X.B + 2; omega) _).far (by show X.B + 7 ≠ X.B + 3; omega) _, ((h.bt.below hb (by omega)).far (by show X.B + 8 ≠ X.B + 2; omega) _).far (by show X.B + 8 ≠ X.B + 3; omega) _,
    ⟨.slice (some ⟨g, 0, none⟩) X.m c, ((h1.below hb (by omega)).far (by show X.B + 3 ≠ X.B + 2; omega) _).set_ 0 _, .inr ⟨g, c, dl, h0, rfl, hc, hc2, by omega, h.dll, hd, ?_, hv⟩⟩,
    ((h.bel.trans (hb.mono (by omega))).setCell (by show X.B ≤ X.B + 2; omega) _).setCell (by show X.B ≤ X.B + 3; omega) _, h.dll, h.sl, by omega⟩
  exact ints_far (ints_far hI (fun ad ha => by injection ha with ha; subst ha; show g ≠ X.B + 2; omega) _) (fun ad ha => by injection ha with ha; subst ha; show g ≠ X.B + 3; omega) _
end Go.Proofs.Ytkljambjdiblkaa
