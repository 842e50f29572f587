/- Appending one element to a slice that the call owns, as one law for every element type. -/
import Derived.Test.YtkljambjdiblkaaClone
namespace Go.Proofs.Ytkljambjdiblkaa
open Go.RowKit

/-- A slice type of the program: its element's type, zero value, cells and bytes. -/
structure STy (T e : TypeId) (z : Value) (size bytes : Nat) : Prop where
  ht : Try.prog.underlying T = some (.slice e)
  inf : (Try.prog.info? e).map (fun i => (i.zero, i.size, i.bytes)) = some (some z, size, bytes)
  hzs : z.cells.size = size
  hsz : 0 < size
  hby : bytes ≤ 100

theorem sty_int : STy 23 3 (.int .i64 0) 1 8 := ⟨Try.underlying23, info_int, rfl, by decide, by decide⟩

/-- What is owned stays owned while older or other blocks turn, and under a smaller base. -/
theorem own_mono {w : World} {base base' e size n : Nat} {v : Value} {xs : List Value} (h : w.ownsRow base e size v n xs) (hb : base' ≤ base) : w.ownsRow base' e size v n xs := by
  obtain ⟨h1, h2⟩ := h
  refine ⟨h1, ?_⟩
  rcases h2 with h2 | ⟨g, cap, cur, hv, a1, a3⟩
  · exact .inl h2
  · exact .inr ⟨g, cap, cur, hv, by omega, a3⟩
theorem own_below {w w' : World} {base e size n : Nat} {v : Value} {xs : List Value} (h : w.ownsRow base e size v n xs) (hb : Below w.heap.size w w') : w'.ownsRow base e size v n xs := by
  obtain ⟨h1, h2⟩ := h
  refine ⟨h1, ?_⟩
  rcases h2 with h2 | ⟨g, cap, cur, hv, a1, a2, a3⟩
  · exact .inl h2
  · exact .inr ⟨g, cap, cur, hv, a1, (hb.block g (lt_of_block a2)).trans a2, a3⟩

theorem own_some {w : World} {base e n c : Nat} {A : Option Addr} {xs : List Value} (h : w.ownsRow base e 1 (.slice A n c) n xs) (hn : 0 < n) : ∃ g, A = some ⟨g, 0, none⟩ ∧ base ≤ g ∧ g < w.heap.size := by
  rcases h.2 with ⟨_, h⟩ | ⟨g, cap, cur, hv, h1, h2, _⟩
  · omega
  · injection hv with e1
    exact ⟨g, e1, h1, lt_of_block h2⟩

theorem wp_app1 {T e : TypeId} {z : Value} {size bytes : Nat} (ty : STy T e z size bytes) {o : Oper} {a : Act} {K : Act → World → Prop} {Q : Exit → Act → World → Prop} {w : World}
    (s x : Operand) (ho : o.op = .call { callee := .builtin .append, args := #[s, x], argTypes := #[T, T] })
    (base : Nat) (A : Option Addr) (n k : Nat) (xs : List Value) (cs : Array Value) (hcs : cs.size = size) (h1 : ∀ u ∈ cs.toList, u.oneCell' = true)
    (hs : a.eval s = .slice A n k) (hown : w.ownsRow base e size (.slice A n k) n xs) (hx : a.eval x = .slice (some ⟨w.heap.size, 0, none⟩) 1 1)
    (hn : n ≤ 1000000) (hb : base ≤ w.heap.size)
    (h : ∀ (A' : Option Addr) (k' : Nat) (w' : World), w'.ownsRow base e size (.slice A' (n + 1) k') (n + 1) (xs ++ cs.toList) → w.grownBy w' (Value.slice A n k).ownBlock → Below base w w' → n + 1 ≤ k' → k' ≤ 9223372036854775807 →
      K (a.put o.dst (.slice A' (n + 1) k')) w') : o.wp Try.prog a (w.alloc (.cells cs e)) K Q := by
  obtain ⟨i0, hi, hz0, hz1, hz2⟩ := info_parts ty.inf
  refine wp_append_own _ s x T ho base e i0 z size bytes ty.ht hi hz0 hz1 hz2 ty.hzs ty.hsz _ n xs hs (hown.alloc _) ⟨w.heap.size, 0, none⟩ 1 1 cs.toList hx (by simpa using hcs) ?_ h1 (by unfold maxLen; omega) ?_ (by go_size) ?_
  · intro j u hu
    have hB := (Blk.new w e cs rfl).at_
    exact (At.some2 hB) j u hu
  · have h2 := ty.hby
    calc (n + 1) * bytes ≤ 1000001 * 100 := Nat.mul_le_mul (by omega) h2
      _ ≤ _ := by decide
  · intro v' w' hown' hg hv
    obtain ⟨A', k', rfl, hk, hk', _⟩ := own_form hown'
    have hg' : w.grownBy w' (Value.slice A n k).ownBlock :=
      ⟨hg.os, hg.tape, hg.output, Nat.le_trans (by simp) hg.size, fun b hb hne => (hg.block b (Nat.lt_of_lt_of_le hb (by simp)) hne).trans (Below.heap_alloc w _ b hb)⟩
    refine h A' k' w' hown' hg' ?_ hk hk'
    refine ⟨hg'.os, hg'.tape, hg'.output, hg'.size, fun b hb' => hg'.block b (by omega) fun he => ?_⟩
    have := (hown.lt b he.symm).1
    omega

theorem app1 {T e : TypeId} {z : Value} {size bytes : Nat} (ty : STy T e z size bytes) {ops : Array Oper} {rest : List Oper} {o : Oper} {a : Act} {Q : Exit → Act → World → Prop} {w : World}
    (hgd : o.guard = none) (s x : Operand) (ho : o.op = .call { callee := .builtin .append, args := #[s, x], argTypes := #[T, T] })
    (base : Nat) (A : Option Addr) (n k : Nat) (xs : List Value) (cs : Array Value) (hcs : cs.size = size) (h1 : ∀ u ∈ cs.toList, u.oneCell' = true)
    (hs : a.eval s = .slice A n k) (hown : w.ownsRow base e size (.slice A n k) n xs) (hx : a.eval x = .slice (some ⟨w.heap.size, 0, none⟩) 1 1)
    (hn : n ≤ 1000000) (hb : base ≤ w.heap.size)
    (h : ∀ (A' : Option Addr) (k' : Nat) (w' : World), w'.ownsRow base e size (.slice A' (n + 1) k') (n + 1) (xs ++ cs.toList) → w.grownBy w' (Value.slice A n k).ownBlock → Below base w w' → n + 1 ≤ k' → k' ≤ 9223372036854775807 →
      wpList Try.prog ops Q rest (a.put o.dst (.slice A' (n + 1) k')) w') : wpList Try.prog ops Q (o :: rest) a (w.alloc (.cells cs e)) :=
  wpList_plain hgd fun _ hK => wp_app1 ty s x ho base A n k xs cs hcs h1 hs hown hx hn hb fun A' k' w' a1 a2 a3 a4 a5 => hK _ _ (h A' k' w' a1 a2 a3 a4 a5)

/-- The same as one step of a region that draws its order. -/
theorem step_app1 {T e : TypeId} {z : Value} {size bytes : Nat} (ty : STy T e z size bytes) {ops : Array Oper} {o : Oper} {a : Act} {K : Act → World → Prop} {Q : Exit → Act → World → Prop} {E : Prop} {w : World}
    (hgd : o.guard = none) (s x : Operand) (ho : o.op = .call { callee := .builtin .append, args := #[s, x], argTypes := #[T, T] })
    (base : Nat) (A : Option Addr) (n k : Nat) (xs : List Value) (cs : Array Value) (hcs : cs.size = size) (h1 : ∀ u ∈ cs.toList, u.oneCell' = true)
    (hs : a.eval s = .slice A n k) (hown : w.ownsRow base e size (.slice A n k) n xs) (hx : a.eval x = .slice (some ⟨w.heap.size, 0, none⟩) 1 1)
    (hn : n ≤ 1000000) (hb : base ≤ w.heap.size)
    (h : ∀ (A' : Option Addr) (k' : Nat) (w' : World), w'.ownsRow base e size (.slice A' (n + 1) k') (n + 1) (xs ++ cs.toList) → w.grownBy w' (Value.slice A n k).ownBlock → Below base w w' → n + 1 ≤ k' → k' ≤ 9223372036854775807 →
      K (a.put o.dst (.slice A' (n + 1) k')) w') : if Region.wanted o (yielded ops a.tmps) = true then Oper.wp Try.prog o a (w.alloc (.cells cs e)) K Q else E := by
  have hw : Region.wanted o (yielded ops a.tmps) = true := by simp [Region.wanted, hgd]
  rw [if_pos hw]
  exact wp_app1 ty s x ho base A n k xs cs hcs h1 hs hown hx hn hb h
end Go.Proofs.Ytkljambjdiblkaa
