/- Contract: the function that lists the orders of the players (orders of package games, its inner function), called with the function of games.Shapley. -/
import Derived.Test.YtbidboagaoifaaaShap1
import Derived.Test.YtbidboagaoifaaaValid
import Derived.Test.YtbidboagaoifaaaClone
namespace Go.Proofs.Ytbidboagaoifaaa
open Go.RowKit

/-- The places of what the orders' function works on. -/
structure GX where
  ac : Addr
  N : Nat
  cap : Nat
  n : Nat
  Bc : Nat
  Bk : Nat
  Bs : Nat
  S : Nat
  Bo : Nat
  Bcb : Nat
  Bfb : Nat
  Bg : Nat
  base : Nat
  c : List Int

structure GX.ok (X : GX) : Prop where
  hn : X.n ≤ 4
  hn0 : 1 ≤ X.n
  hN : X.N = 2 ^ X.n
  hl : X.c.length = X.N
  hcb : ∀ x ∈ X.c, 0 ≤ x ∧ x ≤ 1000
  a1 : X.ac.block ≠ X.Bc
  a2 : X.ac.block ≠ X.S
  a3 : X.ac.block ≠ X.Bo
  a4 : X.ac.block < X.base
  nd : ∀ x ∈ [X.Bs, X.Bk, X.Bcb, X.Bfb, X.Bg], x ∉ [X.Bo, X.Bc, X.S]
  n1 : X.Bo ≠ X.Bc
  n2 : X.Bo ≠ X.S
  n3 : X.S ≠ X.Bc
  lt : ∀ x ∈ [X.Bo, X.Bc, X.S, X.Bs, X.Bk, X.Bcb, X.Bfb, X.Bg], x < X.base

def nats (xs : List Nat) : List Value := xs.map fun (x : Nat) => Value.int .i64 (x : Int)

/-- The fixed parts of memory. -/
structure GX.fix (X : GX) (w : World) : Prop where
  size : X.base ≤ w.heap.size
  bcb : Blk w X.Bcb 69 #[.slice (some X.ac) X.N X.cap]
  bfb : Blk w X.Bfb 72 #[.func (.func 59) #[] #[.pointer (some ⟨X.Bc, 0, none⟩), .pointer (some ⟨X.Bk, 0, none⟩), .pointer (some ⟨X.Bs, 0, none⟩)]]
  bg : Blk w X.Bg 1 #[.func (.func 85) #[] #[.pointer (some ⟨X.Bo, 0, none⟩), .pointer (some ⟨X.Bcb, 0, none⟩), .pointer (some ⟨X.Bfb, 0, none⟩), .pointer (some ⟨X.Bg, 0, none⟩)]]
  bk : Blk w X.Bk 69 #[.slice (some X.ac) X.N X.cap]
  bs : Blk w X.Bs 22 #[.slice (some ⟨X.S, 0, none⟩) X.n X.n]
  hc : ∀ i x, X.c[i]? = some x → w.cell? (X.ac.add i) = some (.int .i64 x)

/-- The count and the sums. -/
structure GX.acc (X : GX) (cnt : Int) (sums : List Int) (w : World) : Prop where
  bc : Blk w X.Bc 3 #[.int .i64 cnt]
  bS : Blk w X.S 3 (arr sums)
  c0 : 0 ≤ cnt
  sl : sums.length = X.n
  sb : ∀ y ∈ sums, -(1000 * cnt) ≤ y ∧ y ≤ 1000 * cnt

/-- The order so far. -/
def GX.pre (X : GX) (pre : List Nat) (w : World) : Prop := ∃ A k, Blk w X.Bo 22 #[.slice A pre.length k] ∧ w.ownsRow X.base 3 1 (.slice A pre.length k) pre.length (nats pre) ∧ pre.length ≤ k ∧ k ≤ 9223372036854775807

theorem GX.fix.kept {X : GX} {w w' : World} (h : X.fix w) (hx : X.ok) (hk : Kept X.base [X.Bo, X.Bc, X.S] w w') : X.fix w' := by
  have k : ∀ (g : Nat) (t : TypeId) (cs : Array Value), Blk w g t cs → g ∈ [X.Bs, X.Bk, X.Bcb, X.Bfb, X.Bg] → Blk w' g t cs := by
    intro g t cs hb hm
    exact hb.kept hk (hx.lt g (by simp only [List.mem_cons] at hm ⊢; exact .inr (.inr (.inr hm)))) (hx.nd g hm)
  exact {
    size := Nat.le_trans h.size hk.size
    bcb := k _ _ _ h.bcb (by simp)
    bfb := k _ _ _ h.bfb (by simp)
    bg := k _ _ _ h.bg (by simp)
    bk := k _ _ _ h.bk (by simp)
    bs := k _ _ _ h.bs (by simp)
    hc := fun i x hi => (hk.cell (by rw [add_block]; exact hx.a4) (by rw [add_block]; simp [hx.a1, hx.a2, hx.a3])).trans (h.hc i x hi) }

/-- What the walk of the inner function leaves: the count and the sums moved on by the orders of a list, the order so far as it was. -/
structure GX.post (X : GX) (pre : List Nat) (cnt : Int) (sums : List Int) (L : List (List Nat)) (w w' : World) : Prop where
  acc : X.acc (cnt + L.length) (addAll X.c X.n sums L) w'
  pre : X.pre pre w'
  kept : Kept X.base [X.Bo, X.Bc, X.S] w w'

theorem own_pop {w : World} {base e n k : Nat} {A : Option Addr} {xs : List Value} {y : Value} (h : w.ownsRow base e 1 (.slice A (n + 1) k) (n + 1) (xs ++ [y])) : w.ownsRow base e 1 (.slice A n k) n xs := by
  obtain ⟨hl, h⟩ := h
  have hl' : xs.length = n := by simp at hl; omega
  refine ⟨by omega, ?_⟩
  rcases h with ⟨_, h⟩ | ⟨g, cap, cur, hv, h1, h2, h3, h4, h5, h6⟩
  · omega
  · refine .inr ⟨g, cap, cur, ?_, h1, h2, by omega, h4, h5, ?_⟩
    · injection hv with e1 e2 e3; rw [e1, e3]
    · have := congrArg (List.take n) h6
      rw [List.take_take, List.take_append_of_le_length (by omega), List.take_of_length_le (l := xs) (by omega)] at this
      rw [Nat.mul_one]
      rw [← this]
      congr 1
      omega
theorem nats_snoc (xs : List Nat) (x : Nat) : nats (xs ++ [x]) = nats xs ++ [Value.int .i64 (x : Int)] := by simp [nats]
theorem nats_one (xs : List Nat) : ∀ u ∈ nats xs, u.oneCell' = true := by
  intro u hu
  simp only [nats, List.mem_map] at hu
  obtain ⟨x, _, rfl⟩ := hu
  rfl
/-- An owned row lies apart from older blocks, so it stays behind what leaves it alone. -/
theorem own_kept {w w' : World} {base e size n : Nat} {v : Value} {xs : List Value} (h : w.ownsRow base e size v n xs) (hk : ∀ g, base ≤ g → g < w.heap.size → w'.heap[g]? = w.heap[g]?) : w'.ownsRow base e size v n xs := by
  obtain ⟨h1, h2⟩ := h
  refine ⟨h1, ?_⟩
  rcases h2 with h2 | ⟨g, cap, cur, hv, a1, a2, a3⟩
  · exact .inl h2
  · exact .inr ⟨g, cap, cur, hv, a1, (hk g a1 (lt_of_block a2)).trans a2, a3⟩
theorem own_setCell {w : World} {base e size n : Nat} {v : Value} {xs : List Value} (h : w.ownsRow base e size v n xs) {p : Addr} (hp : p.block < base) (u : Value) : (w.setCell p u).ownsRow base e size v n xs :=
  own_kept h fun g hg _ => Below.heap_setCell w p u g (by omega)
end Go.Proofs.Ytbidboagaoifaaa
