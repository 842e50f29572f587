/- Laws and contracts that the proof of the market rows uses, part 3. -/
import Derived.Test.YtnljnjnmhbkdoaaBaseM2
import Derived.Test.YtnljnjnmhbkdoaaBaseM1
import Derived.Deep.DeepCutAuto
import Derived.Deep.RegionLaw
namespace Go.Proofs.Ytnljnjnmhbkdoaa
open Go.RowKit

/- Where a slice lies after append: where it lay, or in new memory. -/

/-- The first lies where the second lies, or in new memory. -/
def Stay (w : World) (v' v : Value) : Prop := ∀ ad' n' k', v' = .slice (some ad') n' k' → (∃ n k, v = .slice (some ad') n k) ∨ w.heap.size ≤ ad'.block

theorem run_where {T e : TypeId} {z : Value} {size bytes : Nat} (ty : STy T e z size bytes) (rt : TypeId) {w w' : World} {base : Nat} {v v' : Value} {n : Nat} {xs : List Value} (hown : w.ownsRow base e size v n xs)
    {a : Addr} {m c : Nat} {news : List Value} (hl : news.length = m * size) (hnews : ∀ j u, news[j]? = some u → w.cell? (a.add j) = some u) (h1 : ∀ u ∈ news, u.oneCell' = true)
    (hn : n + m ≤ 1000000) (hr : (Builtin.append_ #[T, T] rt #[v, .slice (some a) m c]).run Try.prog w = .ok v' w') (hm : 0 < m) : Stay w v' v := by
  obtain ⟨i0, hi, hz0, hz1, hz2⟩ := info_parts ty.inf
  have hb : (n + m) * i0.bytes ≤ 140737488355328 := by
    have h2 := ty.hby
    rw [hz2]
    calc (n + m) * bytes ≤ 1000000 * 100 := Nat.mul_le_mul (by omega) h2
      _ ≤ _ := by decide
  have hb2 : m * i0.bytes ≤ 281474976710656 := Nat.le_trans (Nat.mul_le_mul_right _ (by omega)) (Nat.le_trans hb (by decide))
  intro ad' n' k' he
  rcases hown.2 with ⟨rfl, rfl⟩ | ⟨g, cap, cur, rfl, hbg, hg, hnc, hcm, hcs, htake⟩
  · have h := run_append_nil (P := Try.prog) w T rt e i0 z ty.ht hi hz0 a m c news (by rw [hz1]; exact hl) hnews hm (by omega) hb2
    rw [h] at hr
    injection hr with hr _
    rw [← hr] at he
    injection he with he
    injection he with he
    exact .inr (by rw [← he]; exact Nat.le_refl _)
  · by_cases hroom : n + m ≤ cap
    · have hfit : n * i0.size + news.length ≤ cur.size := by rw [hz1, hl, hcs, ← Nat.add_mul]; exact Nat.mul_le_mul_right _ hroom
      have h := run_append_room (P := Try.prog) w T rt e i0 ty.ht hi g n cap cur hg a m c news (by rw [hz1]; exact hl) hnews h1 hroom hfit
      rw [h] at hr
      injection hr with hr _
      rw [← hr] at he
      injection he with he
      exact .inl ⟨n, cap, by rw [he]⟩
    · have holds : ∀ j u, xs[j]? = some u → w.cell? ((⟨g, 0, none⟩ : Addr).add j) = some u := hown.cells (g := g) rfl
      have h := run_append_grow (P := Try.prog) w T rt e i0 z ty.ht hi hz0 ⟨g, 0, none⟩ n cap xs (by rw [hz1]; exact hown.1) holds a m c news (by rw [hz1]; exact hl) hnews (by omega) (by omega) (growslice_fits (by omega) hb)
      rw [h] at hr
      injection hr with hr _
      rw [← hr] at he
      injection he with he
      injection he with he
      exact .inr (by rw [← he]; exact Nat.le_refl _)

theorem wp_app1w {T e : TypeId} {z : Value} {bytes : Nat} (ty : STy T e z 1 bytes) {o : Oper} {a : Act} {K : Act → World → Prop} {Q : Exit → Act → World → Prop} {w : World}
    (s x : Operand) (ho : o.op = .call { callee := .builtin .append, args := #[s, x], argTypes := #[T, T] })
    (base : Nat) (A : Option Addr) (n k : Nat) (xs : List Value) (u : Value) (h1 : u.oneCell' = true)
    (hs : a.eval s = .slice A n k) (hown : w.ownsRow base e 1 (.slice A n k) n xs) (g : Nat) (hx : a.eval x = .slice (some ⟨g, 0, none⟩) 1 1) (hg : g = w.heap.size)
    (hn : n ≤ 100000) (hb : base ≤ w.heap.size)
    (h : ∀ (A' : Option Addr) (k' : Nat) (w' : World), w'.ownsRow base e 1 (.slice A' (n + 1) k') (n + 1) (xs ++ [u]) → w.grownBy w' (Value.slice A n k).ownBlock → Below base w w' → n + 1 ≤ k' → k' ≤ 9223372036854775807 → Stay w (.slice A' (n + 1) k') (.slice A n k) →
      K (a.put o.dst (.slice A' (n + 1) k')) w') : o.wp Try.prog a (w.alloc (.cells #[u] e)) K Q := by
  subst hg
  obtain ⟨i0, hi, hz0, hz1, hz2⟩ := info_parts ty.inf
  have hnews : ∀ j x, [u][j]? = some x → (w.alloc (.cells #[u] e)).cell? ((⟨w.heap.size, 0, none⟩ : Addr).add j) = some x := by
    intro j x hx
    exact (At.some2 (Blk.new w e #[u] rfl).at_) j x hx
  have hbytes : (n + 1) * bytes ≤ 140737488355328 := by
    have h2 := ty.hby
    calc (n + 1) * bytes ≤ 1000000 * 100 := Nat.mul_le_mul (by omega) h2
      _ ≤ _ := by decide
  have hone : ∀ x ∈ [u], x.oneCell' = true := by intro x hx; rw [List.mem_singleton.1 hx]; exact h1
  obtain ⟨v', w', hr, hown', hg, _⟩ := run_append_own (P := Try.prog) (w.alloc (.cells #[u] e)) base T o.type e i0 z 1 bytes ty.ht hi hz0 hz1 hz2 ty.hzs ty.hsz (.slice A n k) n xs (hown.alloc _)
    ⟨w.heap.size, 0, none⟩ 1 1 [u] rfl hnews hone (by unfold maxLen; omega) hbytes (by go_size)
  have hst := run_where ty o.type (hown.alloc _) (m := 1) rfl hnews hone (by omega) hr (by omega)
  unfold Oper.wp execOp
  simp only [ho, resolve, invoke, builtin, Sem.run_bind, Sem.run_pure, Result.andThen_ok, List.map_toArray, List.map_cons, List.map_nil, hs, hx, hr]
  obtain ⟨A', k', rfl, hk, hk', _⟩ := own_form hown'
  have hg' : w.grownBy w' (Value.slice A n k).ownBlock :=
    ⟨hg.os, hg.tape, hg.output, Nat.le_trans (by simp) hg.size, fun b hb hne => (hg.block b (Nat.lt_of_lt_of_le hb (by simp)) hne).trans (Below.heap_alloc w _ b hb)⟩
  refine h A' k' w' hown' hg' ?_ hk hk' ?_
  · refine ⟨hg'.os, hg'.tape, hg'.output, hg'.size, fun b hb' => hg'.block b (by omega) fun he => ?_⟩
    have := (hown.lt b he.symm).1
    omega
  · intro ad' n' k'' he
    rcases hst ad' n' k'' he with h | h
    · exact .inl h
    · exact .inr (Nat.le_trans (by simp) h)

theorem app1w {T e : TypeId} {z : Value} {bytes : Nat} (ty : STy T e z 1 bytes) {ops : Array Oper} {rest : List Oper} {o : Oper} {a : Act} {Q : Exit → Act → World → Prop} {w : World}
    (hgd : o.guard = none) (s x : Operand) (ho : o.op = .call { callee := .builtin .append, args := #[s, x], argTypes := #[T, T] })
    (base : Nat) (A : Option Addr) (n k : Nat) (xs : List Value) (u : Value) (h1 : u.oneCell' = true)
    (hs : a.eval s = .slice A n k) (hown : w.ownsRow base e 1 (.slice A n k) n xs) (g : Nat) (hx : a.eval x = .slice (some ⟨g, 0, none⟩) 1 1) (hg : g = w.heap.size)
    (hn : n ≤ 100000) (hb : base ≤ w.heap.size)
    (h : ∀ (A' : Option Addr) (k' : Nat) (w' : World), w'.ownsRow base e 1 (.slice A' (n + 1) k') (n + 1) (xs ++ [u]) → w.grownBy w' (Value.slice A n k).ownBlock → Below base w w' → n + 1 ≤ k' → k' ≤ 9223372036854775807 → Stay w (.slice A' (n + 1) k') (.slice A n k) →
      wpList Try.prog ops Q rest (a.put o.dst (.slice A' (n + 1) k')) w') : wpList Try.prog ops Q (o :: rest) a (w.alloc (.cells #[u] e)) :=
  wpList_plain hgd fun _ hK => wp_app1w ty s x ho base A n k xs u h1 hs hown g hx hg hn hb fun A' k' w' a1 a2 a3 a4 a5 a6 => hK _ _ (h A' k' w' a1 a2 a3 a4 a5 a6)

/- What a component's search holds in memory. -/

def ncells (l : List Nd) : List Value := l.flatMap fun x => [.bool x.1, .int .i64 (x.2 : Int)]
theorem ncells_snoc (l : List Nd) (x : Nd) : ncells (l ++ [x]) = ncells l ++ [.bool x.1, .int .i64 (x.2 : Int)] := by simp [ncells]
theorem ncells_length (l : List Nd) : (ncells l).length = l.length * 2 := by
  induction l with
  | nil => rfl
  | cons p ps ih => simp only [ncells, List.flatMap_cons, List.length_append, List.length_cons, List.length_nil] at ih ⊢; omega
theorem ncells_at : ∀ (l : List Nd) (k : Nat) (x : Nd), l[k]? = some x → (ncells l)[k * 2]? = some (.bool x.1) ∧ (ncells l)[k * 2 + 1]? = some (.int .i64 (x.2 : Int))
  | [], k, x, h => by simp at h
  | y :: l, 0, x, h => by simp at h; subst h; simp [ncells]
  | y :: l, k + 1, x, h => by
    have := ncells_at l k x (by simpa using h)
    have e1 : (k + 1) * 2 = k * 2 + 1 + 1 := by omega
    rw [e1]
    simpa [ncells] using this
theorem info_node : (Try.prog.info? 100).map (fun i => (i.zero, i.size, i.bytes)) = some (some (.agg #[.bool false, .int .i64 0]), 2, 16) := by kernel_rfl
theorem sty_nodes : STy 105 100 (.agg #[.bool false, .int .i64 0]) 2 16 := ⟨Try.underlying105, info_node, rfl, by decide, by decide⟩
theorem zero_bool (w : World) : (zeroValue 4).run Try.prog w = .ok (.bool false) w := by kernel_rfl
theorem zero_node (w : World) : (zeroValue 100).run Try.prog w = .ok (.agg #[.bool false, .int .i64 0]) w := by kernel_rfl
theorem zero_mfrac (w : World) : (zeroValue 77).run Try.prog w = .ok (.agg #[.int .i64 0, .int .i64 0]) w := by kernel_rfl
theorem run_eq_node (a b : Bool) (i j : Nat) (w : World) : (binOp .eql 100 (.agg #[.bool a, .int .i64 (i : Int)]) (.agg #[.bool b, .int .i64 (j : Int)])).run Try.prog w = .ok (.bool (decide ((a, i) = (b, j)))) w := by
  have e0 : decide ((a, i) = (b, j)) = (decide (a = b) && decide ((i : Int) = (j : Int))) := by
    rw [Bool.eq_iff_iff]
    simp only [decide_eq_true_eq, Bool.and_eq_true, Prod.mk.injEq]
    constructor <;> rintro ⟨h1, h2⟩ <;> exact ⟨h1, by omega⟩
  rw [e0]
  by_cases h1 : a = b
  · by_cases h2 : (i : Int) = (j : Int)
    · simp only [h1, h2]; go_simp
    · simp only [h1]; go_simp
  · go_simp
/-- One element more, and where the slice lies then: for elements of several cells. -/
theorem app1s {T e : TypeId} {z : Value} {size bytes : Nat} (ty : STy T e z size bytes) {ops : Array Oper} {rest : List Oper} {o : Oper} {a : Act} {Q : Exit → Act → World → Prop} {w : World}
    (hgd : o.guard = none) (s x : Operand) (ho : o.op = .call { callee := .builtin .append, args := #[s, x], argTypes := #[T, T] })
    (base : Nat) (A : Option Addr) (n k : Nat) (xs : List Value) (cs : Array Value) (hcs : cs.size = size) (h1 : ∀ u ∈ cs.toList, u.oneCell' = true)
    (hs : a.eval s = .slice A n k) (hown : w.ownsRow base e size (.slice A n k) n xs) (g : Nat) (hx : a.eval x = .slice (some ⟨g, 0, none⟩) 1 1) (hg : g = w.heap.size)
    (hn : n ≤ 100000) (hb : base ≤ w.heap.size)
    (h : ∀ (A' : Option Addr) (k' : Nat) (w' : World), w'.ownsRow base e size (.slice A' (n + 1) k') (n + 1) (xs ++ cs.toList) → w.grownBy w' (Value.slice A n k).ownBlock → Below base w w' → n + 1 ≤ k' → k' ≤ 9223372036854775807 → Stay w (.slice A' (n + 1) k') (.slice A n k) →
      wpList Try.prog ops Q rest (a.put o.dst (.slice A' (n + 1) k')) w') : wpList Try.prog ops Q (o :: rest) a (w.alloc (.cells cs e)) := by
  subst hg
  refine wpList_plain hgd fun _ hK => ?_
  obtain ⟨i0, hi, hz0, hz1, hz2⟩ := info_parts ty.inf
  have hnews : ∀ j x, cs.toList[j]? = some x → (w.alloc (.cells cs e)).cell? ((⟨w.heap.size, 0, none⟩ : Addr).add j) = some x := by
    intro j x hx
    exact (At.some2 (Blk.new w e cs rfl).at_) j x hx
  have hbytes : (n + 1) * bytes ≤ 140737488355328 := by
    have h2 := ty.hby
    calc (n + 1) * bytes ≤ 1000000 * 100 := Nat.mul_le_mul (by omega) h2
      _ ≤ _ := by decide
  obtain ⟨v', w', hr, hown', hg, _⟩ := run_append_own (P := Try.prog) (w.alloc (.cells cs e)) base T o.type e i0 z size bytes ty.ht hi hz0 hz1 hz2 ty.hzs ty.hsz (.slice A n k) n xs (hown.alloc _)
    ⟨w.heap.size, 0, none⟩ 1 1 cs.toList (by simpa using hcs) hnews h1 (by unfold maxLen; omega) hbytes (by go_size)
  have hst := run_where ty o.type (hown.alloc _) (m := 1) (by simpa using hcs) hnews h1 (by omega) hr (by omega)
  unfold Oper.wp execOp
  simp only [ho, resolve, invoke, builtin, Sem.run_bind, Sem.run_pure, Result.andThen_ok, List.map_toArray, List.map_cons, List.map_nil, hs, hx, hr]
  obtain ⟨A', k', rfl, hk, hk', _⟩ := own_form hown'
  have hg' : w.grownBy w' (Value.slice A n k).ownBlock :=
    ⟨hg.os, hg.tape, hg.output, Nat.le_trans (by simp) hg.size, fun b hb hne => (hg.block b (Nat.lt_of_lt_of_le hb (by simp)) hne).trans (Below.heap_alloc w _ b hb)⟩
  refine hK _ _ (h A' k' w' hown' hg' ?_ hk hk' ?_)
  · refine ⟨hg'.os, hg'.tape, hg'.output, hg'.size, fun b hb' => hg'.block b (by omega) fun he => ?_⟩
    have := (hown.lt b he.symm).1
    omega
  · intro ad' n' k'' he
    rcases hst ad' n' k'' he with h | h
    · exact .inl h
    · exact .inr (Nat.le_trans (by simp) h)
/-- What a component is given: the market, and below it the balance that is to be made. -/
structure CompIn (w0 w : World) (A : Option Addr) (n : Nat) (U : Option Addr) (k : Nat) (B : List Int) (V : List (List Int)) (bb PB dm N0 : Nat) (don : Nd → Bool) (pq : Nat → Rat) : Prop where
  mkt : MktAt w0 A n U n B V
  hn : 1 ≤ n ∧ n ≤ 3
  hk : 1 ≤ k ∧ k ≤ 3
  hg : goodsN V = k
  rows : ∀ r ∈ V, rowOk k r = true
  buds : ∀ b ∈ B, 1 ≤ b ∧ b ≤ 20
  bel : Below w0.heap.size w0 w
  p0 : w0.heap.size ≤ PB
  d0 : w0.heap.size ≤ dm
  blt : bb < w.heap.size
  bd : bb ≠ dm
  bp : bb ≠ PB
  dp : dm ≠ PB
  bal : w.cell? ⟨bb, 0, none⟩ = some (.slice (some ⟨PB, 0, none⟩) k k)
  pri : PrB w PB 77 (psOf k don pq)
  donm : MapN w dm N0 (.bool false) (fun x => .bool (don x))
  hN : N0 ≤ 100
structure CMem (w wr : World) (mk : Array Value) (tb pm dm PB N0 k : Nat) (A2 : Option Addr) (c2 : Nat) (st : CSt) (j : Nat) : Prop where
  mkb : Blk wr w.heap.size 30 mk
  own : wr.ownsRow w.heap.size 100 2 (.slice A2 st.ord.length c2) st.ord.length (ncells st.ord)
  ne : ∀ ad, A2 = some ad → ad.block ≠ w.heap.size ∧ ad.block ≠ tb ∧ ad.block ≠ pm
  tot : PrB wr tb 77 [pr (totOf st.pq (st.ord.take j))]
  parm : MapN wr pm st.ord.length (.agg #[.bool false, .int .i64 0]) (fun x => nodeV (st.par x))
  donm : MapN wr dm (N0 + st.ord.length) (.bool false) (fun x => .bool (st.don x))
  pri : PrB wr PB 77 (psOf k st.don st.pq)
  kept : Kept w.heap.size [dm, PB] w wr
theorem CMem.below {w wr wr' : World} {mk : Array Value} {tb pm dm PB N0 k : Nat} {A2 : Option Addr} {c2 : Nat} {st : CSt} {j : Nat} (h : CMem w wr mk tb pm dm PB N0 k A2 c2 st j) (hb : Below wr.heap.size wr wr') : CMem w wr' mk tb pm dm PB N0 k A2 c2 st j where
  mkb := h.mkb.below hb h.mkb.lt
  own := own_below h.own hb
  ne := h.ne
  tot := h.tot.below hb h.tot.lt
  parm := h.parm.kept (hb.block _ h.parm.lt)
  donm := h.donm.kept (hb.block _ h.donm.lt)
  pri := h.pri.below hb h.pri.lt
  kept := h.kept.trans (Kept.of_below (hb.mono h.kept.size) _)
theorem budOf_bd {B : List Int} (h : ∀ b ∈ B, 1 ≤ b ∧ b ≤ 20) : ∀ l : List Nd, 0 ≤ budOf B l ∧ budOf B l ≤ 20 * l.length
  | [] => ⟨Int.le_refl _, by simp [budOf]⟩
  | x :: l => by
    have ih := budOf_bd h l
    have hx : 0 ≤ B.getD x.2 0 ∧ B.getD x.2 0 ≤ 20 := by
      rw [List.getD_eq_getElem?_getD]
      cases hb : B[x.2]? with
      | none => exact ⟨Int.le_refl _, by decide⟩
      | some b => have := h b (List.mem_of_getElem? hb); simp; omega
    simp only [budOf, List.length_cons]
    split <;> omega
theorem MapN.far {w : World} {b n : Nat} {z : Value} {f : Nd → Value} (h : MapN w b n z f) {p : Addr} (hp : b ≠ p.block) (u : Value) : MapN (w.setCell p u) b n z f := h.kept (Below.heap_setCell w p u b hp)
theorem own_far {w : World} {base e size n c : Nat} {A : Option Addr} {xs : List Value} (h : w.ownsRow base e size (.slice A n c) n xs) {p : Addr} (hp : ∀ ad, A = some ad → ad.block ≠ p.block) (u : Value) : (w.setCell p u).ownsRow base e size (.slice A n c) n xs := by
  obtain ⟨h1, h2⟩ := h
  refine ⟨h1, ?_⟩
  rcases h2 with h2 | ⟨g, cap, cur, hv, a1, a2, a3⟩
  · exact .inl h2
  · have hA : A = some ⟨g, 0, none⟩ := by injection hv
    exact .inr ⟨g, cap, cur, hv, a1, (Below.heap_setCell w p u g (hp _ hA)).trans a2, a3⟩
theorem own_same {w w' : World} {base e size n c : Nat} {A : Option Addr} {xs : List Value} (h : w.ownsRow base e size (.slice A n c) n xs) (hp : ∀ ad, A = some ad → ad.block < w.heap.size → w'.heap[ad.block]? = w.heap[ad.block]?) : w'.ownsRow base e size (.slice A n c) n xs := by
  obtain ⟨h1, h2⟩ := h
  refine ⟨h1, ?_⟩
  rcases h2 with h2 | ⟨g, cap, cur, hv, a1, a2, a3⟩
  · exact .inl h2
  · have hA : A = some ⟨g, 0, none⟩ := by injection hv
    exact .inr ⟨g, cap, cur, hv, a1, (hp _ hA (lt_of_block a2)).trans a2, a3⟩
theorem useN_bd {k : Nat} {V : List (List Int)} (h : ∀ r ∈ V, rowOk k r = true) (i g : Nat) : 0 ≤ useN V i g ∧ useN V i g ≤ 20 := by
  unfold useN
  by_cases hi : i < V.length
  · exact rowOk_getD (h _ (List.mem_of_getElem? (rowV_some hi))) g
  · unfold rowV
    rw [List.getD_eq_getElem?_getD (l := V), List.getElem?_eq_none (by omega)]
    simp
/-- The sum is written. -/
theorem CMem.total {w wr : World} {mk : Array Value} {tb pm dm PB N0 k : Nat} {A2 : Option Addr} {c2 : Nat} {st : CSt} {j j' : Nat} (h : CMem w wr mk tb pm dm PB N0 k A2 c2 st j)
    (d0 : w.heap.size ≠ tb) (d1 : pm ≠ tb) (d2 : dm ≠ tb) (d3 : PB ≠ tb) (d4 : w.heap.size ≤ tb) (q : Rat) (hq : q = totOf st.pq (st.ord.take j')) :
    CMem w ((wr.setCell ⟨tb, 0, none⟩ (.int .i64 q.num)).setCell ⟨tb, 1, none⟩ (.int .i64 (q.den : Int))) mk tb pm dm PB N0 k A2 c2 st j' where
  mkb := (h.mkb.far d0 _).far d0 _
  own := own_far (own_far h.own (fun ad he => (h.ne ad he).2.1) _) (fun ad he => (h.ne ad he).2.1) _
  ne := h.ne
  tot := by
    have h1 := h.tot.set_ 0 q.num q.den
    rw [← hq]
    exact h1
  parm := (h.parm.far d1 _).far d1 _
  donm := (h.donm.far d2 _).far d2 _
  pri := (Blk.far h.pri d3 _).far d3 _
  kept := (h.kept.setCell (.inr d4) _).setCell (.inr d4) _
/-- The next node is marked as done, and where it is come from. -/
theorem CMem.mark {w wr : World} {mk : Array Value} {tb pm dm PB N0 k : Nat} {A2 : Option Addr} {c2 : Nat} {st : CSt} {j : Nat} (h : CMem w wr mk tb pm dm PB N0 k A2 c2 st j) (hpd : pm ≠ dm) (hN : N0 ≤ 100) (hl : st.ord.length ≤ 6)
    (nb : Bool) (y : Nat) (hy : y < 3) (x : Nd) :
    ∃ w1 w2, (Instr.mapUpdate 98 (.map (some dm)) (.agg #[.bool nb, .int .i64 (y : Int)]) (.bool true)).run Try.prog wr = .ok () w1 ∧ (Instr.mapUpdate 106 (.map (some pm)) (.agg #[.bool nb, .int .i64 (y : Int)]) (.agg #[.bool x.1, .int .i64 (x.2 : Int)])).run Try.prog w1 = .ok () w2 ∧
      Kept wr.heap.size [dm] wr w1 ∧ Kept wr.heap.size [dm, pm] wr w2 ∧ MapN w2 pm (st.ord.length + 1) (.agg #[.bool false, .int .i64 0]) (fun z => nodeV (upd st.par (nb, y) x z)) ∧ MapN w2 dm (N0 + (st.ord.length + 1)) (.bool false) (fun z => .bool (upd st.don (nb, y) true z)) := by
  obtain ⟨w1, r1, d1, g1⟩ := h.donm.store (t := 98) Try.underlying98 (c := nb) hy (.bool true) (by omega)
  have p1 := h.parm.kept (g1.block _ h.parm.lt (by intro e; injection e with e; exact hpd e))
  obtain ⟨w2, r2, p2, g2⟩ := p1.store (t := 106) Try.underlying106 (c := nb) hy (.agg #[.bool x.1, .int .i64 (x.2 : Int)]) (by omega)
  have k1 : Kept wr.heap.size [dm] wr w1 := (Kept.refl _ _ _).grown g1 (Nat.le_refl _) (fun q hq => by injection hq with hq; exact .inl (by rw [← hq]; simp))
  have k2 : Kept wr.heap.size [dm, pm] wr w2 := (k1.mono (Nat.le_refl _) (fun z hz => by simp at hz; simp [hz])).grown g2 k1.size (fun q hq => by injection hq with hq; exact .inl (by rw [← hq]; simp))
  refine ⟨w1, w2, r1, r2, k1, k2, ?_, ?_⟩
  · have e : (fun z => nodeV (upd st.par (nb, y) x z)) = fun z => if z = (nb, y) then Value.agg #[.bool x.1, .int .i64 (x.2 : Int)] else nodeV (st.par z) := by
      funext z
      unfold upd
      split <;> rfl
    rw [e]; exact p2
  · have e : (fun z => Value.bool (upd st.don (nb, y) true z)) = fun z => if z = (nb, y) then Value.bool true else Value.bool (st.don z) := by
      funext z
      unfold upd
      split <;> rfl
    rw [e, ← Nat.add_assoc]
    exact d1.kept (g2.block _ d1.lt (by intro e; injection e with e; exact hpd e.symm))
/-- The order has grown by it. -/
theorem CMem.grow {w wr w2 w4 : World} {mk : Array Value} {tb pm dm PB N0 k : Nat} {A2 A4 : Option Addr} {c2 c4 : Nat} {st : CSt} {j : Nat} (h : CMem w wr mk tb pm dm PB N0 k A2 c2 st j) (_ : pm ≠ dm) (k2 : Kept wr.heap.size [dm, pm] wr w2)
    (hdw : dm < w.heap.size) (hpw : PB < w.heap.size) (htb : w.heap.size < tb) (hpm : w.heap.size < pm) (htp : tb ≠ pm) (hpp : PB ≠ pm) (hdp : dm ≠ PB) {nx x : Nd}
    (p2 : MapN w2 pm (st.ord.length + 1) (.agg #[.bool false, .int .i64 0]) (fun z => nodeV (upd st.par nx x z))) (d2 : MapN w2 dm (N0 + (st.ord.length + 1)) (.bool false) (fun z => .bool (upd st.don nx true z)))
    (hown : w4.ownsRow w.heap.size 100 2 (.slice A4 (st.ord.length + 1) c4) (st.ord.length + 1) (ncells st.ord ++ [.bool nx.1, .int .i64 (nx.2 : Int)])) (hg : w2.grownBy w4 (Value.slice A2 st.ord.length c2).ownBlock) (hst : Stay w2 (.slice A4 (st.ord.length + 1) c4) (.slice A2 st.ord.length c2)) (hlo : 0 < st.ord.length) :
    (∀ g t cs, Blk wr g t cs → g ≠ dm → g ≠ pm → (∀ ad, A2 = some ad → ad.block ≠ g) → Blk w4 g t cs) ∧ (∀ g, g < wr.heap.size → (∀ ad, A2 = some ad → ad.block ≠ g) → ∀ ad, A4 = some ad → ad.block ≠ g) ∧ ∀ pq' : Nat → Rat, totOf pq' ((st.ord ++ [nx]).take j) = totOf st.pq (st.ord.take j) → PrB w4 PB 77 (psOf k st.don st.pq) ∧ (∀ w5, (∀ g, g < w4.heap.size → g ≠ PB → w5.heap[g]? = w4.heap[g]?) → PrB w5 PB 77 (psOf k (upd st.don nx true) pq') → Kept w.heap.size [dm, PB] w w5 → CMem w w5 mk tb pm dm PB N0 k A4 c4 { ord := st.ord ++ [nx], par := upd st.par nx x, don := upd st.don nx true, pq := pq' } j) := by
  have hnb : ∀ g, (∀ ad, A2 = some ad → ad.block ≠ g) → some g ≠ (Value.slice A2 st.ord.length c2).ownBlock := by
    intro g hh
    cases A2 with
    | none => intro e; cases e
    | some ad => intro e; injection e with e; exact hh ad rfl e.symm
  obtain ⟨go, hA2, hgo, hgo2, _⟩ : ∃ go, A2 = some ⟨go, 0, none⟩ ∧ w.heap.size ≤ go ∧ go < wr.heap.size ∧ True := by
    rcases h.own.2 with ⟨_, e⟩ | ⟨g, cap, cur, hv, h1, h2, _⟩
    · omega
    · injection hv with e1
      exact ⟨g, e1, h1, lt_of_block h2, trivial⟩
  have hblk : ∀ g t cs, Blk wr g t cs → g ≠ dm → g ≠ pm → (∀ ad, A2 = some ad → ad.block ≠ g) → Blk w4 g t cs := fun g t cs hb h1 h2 h3 => (hb.kept k2 hb.lt (by simp; omega)).grown hg (hnb g h3)
  have hA4 : ∀ g, g < wr.heap.size → (∀ ad, A2 = some ad → ad.block ≠ g) → ∀ ad, A4 = some ad → ad.block ≠ g := by
    intro g hg1 hh ad he
    subst he
    rcases hst ad _ _ rfl with ⟨m, q, e⟩ | hge
    · injection e with e
      exact hh ad e
    · have := k2.size; omega
  have hne := h.ne
  refine ⟨hblk, hA4, fun pq' htot => ⟨hblk _ _ _ h.pri hdp.symm hpp (by intro ad he; rw [hA2] at he; injection he with he; rw [← he]; simp; omega), fun w5 hw5 hP hK => ?_⟩⟩
  have hdA : ∀ ad, A2 = some ad → ad.block ≠ dm := by intro ad he; rw [hA2] at he; injection he with he; rw [← he]; simp; omega
  have hpA : ∀ ad, A4 = some ad → ad.block ≠ PB := hA4 PB h.pri.lt (by intro ad he; rw [hA2] at he; injection he with he; rw [← he]; simp; omega)
  refine ⟨?_, ?_, ?_, ?_, ?_, ?_, hP, hK⟩
  · have hb := hblk _ _ _ h.mkb (by omega) (by omega) (fun ad he => (hne ad he).1)
    exact (hw5 _ hb.lt (by omega)).trans hb
  · rw [show (st.ord ++ [nx]).length = st.ord.length + 1 by simp, ncells_snoc]
    obtain ⟨o1, o2⟩ := hown
    refine ⟨o1, ?_⟩
    rcases o2 with o2 | ⟨g, cap, cur, hv, a1, a2, a3⟩
    · exact .inl o2
    · have : g ≠ PB := by
        injection hv with e1
        exact hpA _ e1
      exact .inr ⟨g, cap, cur, hv, a1, (hw5 g (lt_of_block a2) this).trans a2, a3⟩
  · exact fun ad he => ⟨hA4 _ h.mkb.lt (fun ad he => (hne ad he).1) ad he, hA4 _ h.tot.lt (fun ad he => (hne ad he).2.1) ad he, hA4 _ h.parm.lt (fun ad he => (hne ad he).2.2) ad he⟩
  · show PrB w5 tb 77 [pr (totOf pq' ((st.ord ++ [nx]).take j))]
    rw [htot]
    have hb := hblk _ _ _ h.tot (by omega) htp (fun ad he => (hne ad he).2.1)
    exact (hw5 _ (Blk.lt hb) (by omega)).trans hb
  · rw [show (st.ord ++ [nx]).length = st.ord.length + 1 by simp]
    have hb := p2.kept (hg.block _ p2.lt (hnb _ (fun ad he => (hne ad he).2.2)))
    exact hb.kept (hw5 _ hb.lt (by omega))
  · rw [show (st.ord ++ [nx]).length = st.ord.length + 1 by simp]
    have hb := d2.kept (hg.block _ d2.lt (hnb _ hdA))
    exact hb.kept (hw5 _ hb.lt hdp)
def spOf (k : Nat) (f : Nat → Rat) : List (Int × Int) := (List.range k).map fun g => pr (f g)
/-- What a component leaves. -/
def CompPost (B : List Int) (V : List (List Int)) (e n k first : Nat) (don : Nd → Bool) (pq : Nat → Rat) (sp : Nat → Nat → Rat) (w : World) (dm PB N0 : Nat) (R : Nat → Nat) (x : Ending) (w' : World) : Prop :=
  Kept w.heap.size (dm :: PB :: (List.range n).map R) w w' ∧ match compB B V e n k first don pq sp with
    | none => x = .returned (.bool false)
    | some st => x = .returned (.bool true) ∧ PrB w' PB 77 (psOf k st.don (compPq B st)) ∧ MapN w' dm (N0 + 6) (.bool false) (fun z => .bool (st.don z)) ∧ ∀ i, i < n → PrB w' (R i) 77 (spOf k ((compBk B st sp).2 i))
theorem CompPost.no {B : List Int} {V : List (List Int)} {e n k first : Nat} {don : Nd → Bool} {pq : Nat → Rat} {sp : Nat → Nat → Rat} {w : World} {dm PB N0 : Nat} {R : Nat → Nat} {w' : World}
    (hk : Kept w.heap.size [dm, PB] w w') (h : compB B V e n k first don pq sp = none) : CompPost B V e n k first don pq sp w dm PB N0 R (.returned (.bool false)) w' := by
  refine ⟨hk.mono (Nat.le_refl _) (fun z hz => .inl (by simp at hz ⊢; rcases hz with h | h <;> simp [h])), ?_⟩
  rw [h]

/- Contract: Of of the laws' package. -/

def ofV (V : List (List Int)) : List (List Int) := (V.take 6).map (·.take 6)
theorem ofV_on {L : List (List Int)} {k : Nat} {r : List Int} (h : L[k]? = some r) (hk : k < 6) : ofV (L.take (k + 1)) = ofV (L.take k) ++ [r.take 6] := by
  unfold ofV
  rw [List.take_take, List.take_take, show min 6 (k + 1) = k + 1 by omega, show min 6 k = k by omega, List.take_add_one, h]
  simp
theorem ofV_off {L : List (List Int)} {k : Nat} (hk : 6 ≤ k) : ofV (L.take (k + 1)) = ofV (L.take k) := by
  unfold ofV
  rw [List.take_take, List.take_take, show min 6 (k + 1) = 6 by omega, show min 6 k = 6 by omega]
theorem ofV_length (L : List (List Int)) : (ofV L).length = min 6 L.length := by simp [ofV]
/-- What Of leaves. -/
structure OfMem (w w' : World) (A : Option Addr) (n c : Nat) (U : Option Addr) (q d : Nat) (b5 : Nat) (vs : List Value) (B : List Int) (V : List (List Int)) : Prop where
  ln : n = (B.take 6).length
  lq : q = (ofV V).length
  bud : w'.ownsRow w.heap.size 3 1 (.slice A n c) n ((B.take 6).map (Value.int .i64))
  blt : ∀ ad, A = some ad → ad.block < b5
  b5le : w.heap.size ≤ b5
  use : w'.ownsRow b5 22 1 (.slice U q d) q vs
  rows : ORows w' b5 vs (ofV V)
  below : Below w.heap.size w w'
theorem ORows.mat {w : World} {base q c : Nat} {A : Option Addr} {vs : List Value} {L : List (List Int)} (h : ORows w base vs L) (ho : w.ownsRow base 22 1 (.slice A q c) q vs) : Mat w A L := by
  intro j r hj
  obtain ⟨A', c', hv, hown⟩ := h.2.1 j r hj
  obtain ⟨ad, hA, hc⟩ := At.of_own ho j _ hv
  obtain ⟨_, _, he, h1, h2, _⟩ := own_form hown
  injection he with e1 _ e3
  subst e1; subst e3
  exact ⟨ad, A', c', hA, hc, h1, h2, At.of_own hown⟩
theorem OfMem.mkt {w w' : World} {A U : Option Addr} {n c q d b5 : Nat} {vs : List Value} {B : List Int} {V : List (List Int)} (h : OfMem w w' A n c U q d b5 vs B V) : MktAt w' A n U q (B.take 6) (ofV V) where
  hB := h.ln.symm
  hV := h.lq.symm
  budgets := At.of_own h.bud
  uses := h.rows.mat h.use
theorem own_lowset {w : World} {base e size n : Nat} {v : Value} {xs : List Value} (h : w.ownsRow base e size v n xs) {p : Addr} (hp : p.block < base) (u : Value) : (w.setCell p u).ownsRow base e size v n xs := by
  obtain ⟨h1, h2⟩ := h
  refine ⟨h1, ?_⟩
  rcases h2 with h2 | ⟨g, cap, cur, hv, a1, a2, a3⟩
  · exact .inl h2
  · exact .inr ⟨g, cap, cur, hv, a1, (Below.heap_setCell w p u g (by omega)).trans a2, a3⟩
theorem ORows.lowset {w : World} {base : Nat} {vs : List Value} {L : List (List Int)} (h : ORows w base vs L) {p : Addr} (hp : p.block < base) (u : Value) : ORows (w.setCell p u) base vs L :=
  ⟨h.1, fun j os hj => by obtain ⟨A, c, h1, h2⟩ := h.2.1 j os hj; exact ⟨A, c, h1, own_lowset h2 hp u⟩, h.2.2⟩
theorem ofV_rows (V : List (List Int)) : ∀ r ∈ ofV V, r.length ≤ 1000 := by
  intro r hr
  obtain ⟨x, _, rfl⟩ := List.mem_map.1 hr
  rw [List.length_take]; omega
set_option maxRecDepth 100000 in
set_option maxHeartbeats 1600000 in
theorem l4of_any (A : Option Addr) (n c : Nat) (U : Option Addr) (m d : Nat) (B : List Int) (V : List (List Int)) (w : World) (h : MktAt w A n U m B V) (hc : n ≤ c) (hcm : c ≤ 9223372036854775807) (hm : m ≤ 9223372036854775807) :
    Calls Try.prog 15 #[mktV A n c U m d] w fun e w' => ∃ A' n' c' U' q d' b5 vs, e = .returned (mktV A' n' c' U' q d') ∧ OfMem w w' A' n' c' U' q d' b5 vs B V := by
  obtain ⟨w2, hw2⟩ : ∃ w2, w2 = (w.alloc (.cells #[.slice A n c, .slice U m d] 25)).alloc (.cells #[.slice none 0 0, .slice none 0 0] 30) := ⟨_, rfl⟩
  have hb2 : Below w.heap.size w w2 := by rw [hw2]; exact ((Below.refl _ _).alloc (Nat.le_refl _) _).alloc (by simp) _
  have hM2 : Blk w2 w.heap.size 25 #[.slice A n c, .slice U m d] := by rw [hw2]; exact (Blk.new _ _ _ rfl).alloc _
  have hR2 : Blk w2 (w.heap.size + 1) 30 #[.slice none 0 0, .slice none 0 0] := by rw [hw2]; exact Blk.new _ _ _ (by simp)
  have hs2 : w2.heap.size = w.heap.size + 2 := by rw [hw2]; simp
  have hI := (h.budgets.below hb2).take 6
  have hBn := h.hB
  have hVm := h.hV
  have hlt : (B.take 6).length = min n 6 := by rw [List.length_take, hBn]; omega
  have HCL := Lib.hid fun k (hk : (B.take 6).length = k) => clone_any A k c (B.take 6) w2 hk (by omega) hI
  obtain ⟨m1, m2, _, _⟩ := hM2.at2
  have H := Lib.hid (And.intro h (And.intro hb2 (And.intro hM2 (And.intro hR2 (And.intro hVm hlt)))))
  clear h hb2 hM2 hR2 hI hBn hVm hlt
  unfold mktV
  go_enter Try.func15, Try.ntmps15
  go_upto_region 1 with fail
  rw [← hw2]
  clear hw2
  go_cut [3] (fun bv wx => ∃ b A' c', bv = .pointer (some ⟨b, 0, none⟩) ∧ wx.ownsRow w2.heap.size 3 1 (.slice A' (min n 6) c') (min n 6) ((B.take 6).map (Value.int .i64)) ∧ w2.heap.size ≤ b ∧ b + 1 = wx.heap.size ∧ (∀ ad, A' = some ad → ad.block < b) ∧ Blk wx b 30 #[.slice A' (min n 6) c', .slice none 0 0] ∧ Below w2.heap.size w2 wx)
  case first =>
    by_cases h6 : n ≤ 6
    · have e0 : min n 6 = n := by omega
      rw [e0] at H
      have HE := Lib.hid e0
      clear e0
      go_wp2_with fail
      refine (HCL.out n H.out.2.2.2.2.2).mono ?_
      rintro e w3 ⟨A', c', rfl, hown, hb3⟩
      have hlt3 : ∀ ad, A' = some ad → ad.block < w3.heap.size := fun ad he => by
        subst he
        rcases hown.2 with ⟨h0, _⟩ | ⟨g, cap, cur, hv, _, hg, _⟩
        · cases h0
        · injection hv with e1 _ _
          injection e1 with e1
          subst e1
          exact lt_of_block hg
      have hbz : Below w3.heap.size w3 (w3.alloc (.cells #[.slice A' n c', .slice none 0 0] 30)) := (Below.refl _ _).alloc (Nat.le_refl _) _
      have H3 := Lib.hid (And.intro (own_below hown hbz) (And.intro hlt3 (And.intro (hb3.trans (hbz.mono hb3.size)) hb3.size)))
      clear hown hb3 hlt3 hbz
      go_wp2_with fail
      go_meet
      case rel =>
        rw [HE.out]
        exact ⟨w3.heap.size, A', c', rfl, H3.out.1, H3.out.2.2.2, by simp, H3.out.2.1, Blk.new _ _ _ rfl, H3.out.2.2.1⟩
    · have e0 : min n 6 = 6 := by omega
      rw [e0] at H
      have HE := Lib.hid e0
      clear e0
      go_wp2_with fail
      refine (HCL.out 6 H.out.2.2.2.2.2).mono ?_
      rintro e w3 ⟨A', c', rfl, hown, hb3⟩
      have hlt3 : ∀ ad, A' = some ad → ad.block < w3.heap.size := fun ad he => by
        subst he
        rcases hown.2 with ⟨h0, _⟩ | ⟨g, cap, cur, hv, _, hg, _⟩
        · cases h0
        · injection hv with e1 _ _
          injection e1 with e1
          subst e1
          exact lt_of_block hg
      have hbz : Below w3.heap.size w3 (w3.alloc (.cells #[.slice A' 6 c', .slice none 0 0] 30)) := (Below.refl _ _).alloc (Nat.le_refl _) _
      have H3 := Lib.hid (And.intro (own_below hown hbz) (And.intro hlt3 (And.intro (hb3.trans (hbz.mono hb3.size)) hb3.size)))
      clear hown hb3 hlt3 hbz
      go_wp2_with fail
      go_meet
      case rel =>
        rw [HE.out]
        exact ⟨w3.heap.size, A', c', rfl, H3.out.1, H3.out.2.2.2, by simp, H3.out.2.1, Blk.new _ _ _ rfl, H3.out.2.2.1⟩
  obtain ⟨w4, rfl⟩ : ∃ w4 : World, w4 = wc := ⟨_, rfl⟩
  obtain ⟨b, A', c', rfl, hown, hbg, hbs, hblt, hBk, hb4⟩ := hcut
  obtain ⟨nn, hnn⟩ : ∃ nn, nn = min n 6 := ⟨_, rfl⟩
  rw [← hnn] at hown hBk
  have H4 := Lib.hid (And.intro hown (And.intro hblt (And.intro hBk (And.intro hb4 hnn))))
  have hs4 := hb4.size
  have hM4 := H.out.2.2.1.below hb4 (by omega)
  have HM4 := Lib.hid hM4
  clear m1 m2 hown hblt hBk hb4 hnn HCL
  obtain ⟨m1, m2, _, _⟩ := hM4.at2
  clear hM4
  go_wp2_with fail
  clear m1 m2
  go_loopw [18] (fun iv wx => ∃ (k : Nat) (B2 : Option Addr) (q bc : Nat) (vs : List Value), k ≤ m ∧ iv = .int .i64 k ∧ q = (ofV (V.take k)).length ∧ wx.ownsRow w4.heap.size 22 1 (.slice B2 q bc) q vs ∧ ORows wx w4.heap.size vs (ofV (V.take k)) ∧ Blk wx b 30 #[.slice A' nn c', .slice B2 q bc] ∧ Kept w4.heap.size [b] w4 wx) (fun iv _ => m - (intOf iv).toNat)
  case atStart => exact ⟨0, none, 0, 0, [], Nat.zero_le _, rfl, rfl, World.ownsRow_nil _ _ _ _, ORows.nil _ _, H4.out.2.2.1, Kept.refl _ _ _⟩
  case round =>
    obtain ⟨k, B2, q, bc, vs, hk, rfl, hq, hown, hrows, hBk, hkp⟩ := hrel
    obtain ⟨wo, rfl⟩ : ∃ wo : World, wo = wr := ⟨_, rfl⟩
    have hq6 : q ≤ 6 := by rw [hq, ofV_length]; omega
    have hos := hkp.size
    have hbl := hBk.lt
    have hbw : Below w.heap.size w wo := (H.out.2.1.trans (H4.out.2.2.2.1.mono H.out.2.1.size)).trans (hkp.mono (B' := w.heap.size) (S' := []) (by omega) (fun x hx => by simp at hx; right; omega)).below
    have HR := Lib.hid (And.intro hown (And.intro hrows (And.intro hBk (And.intro hkp (And.intro hq hbw)))))
    clear hown hrows hBk hkp hq hbw
    by_cases hlt : k < m
    · obtain ⟨r, hr⟩ : ∃ r, V[k]? = some r := ⟨_, List.getElem?_eq_getElem (by have := H.out.2.2.2.2.1; omega)⟩
      obtain ⟨ad, A2, cr, hU, hcell, hrc, hc2, hI⟩ := H.out.1.uses k r hr
      subst hU
      have hcell2 := (HR.out.2.2.2.2.2.cell (lt_of_cell hcell)).trans hcell
      obtain ⟨rl, hrl⟩ : ∃ rl, rl = r.length := ⟨_, rfl⟩
      rw [← hrl] at hcell2 hrc
      have HI := Lib.hid (And.intro (hI.below HR.out.2.2.2.2.2) (And.intro hrl hr))
      clear hr hcell hI hrl
      by_cases h6 : k < 6
      · by_cases hr6 : rl ≤ 6
        · skip
          have e0 : min rl 6 = rl := by omega
          have htl : (r.take 6).length = rl := by rw [List.length_take, ← HI.out.2.1]; omega
          have HCL := Lib.hid fun w' (hb : Below wo.heap.size wo w') => clone_any A2 rl cr (r.take 6) w' htl (by omega) ((HI.out.1.below hb).take 6)
          have hst : ∀ (w3 : World) (A3 : Option Addr) (c3 : Nat), w3.ownsRow wo.drew.heap.size 3 1 (.slice A3 rl c3) rl ((r.take 6).map (Value.int .i64)) → Below wo.drew.heap.size wo.drew w3 →
              w3.ownsRow w4.heap.size 22 1 (.slice B2 q bc) q vs ∧ ORows w3 w4.heap.size (vs ++ [.slice A3 rl c3]) (ofV (V.take (k + 1))) ∧ Blk w3 b 30 #[.slice A' nn c', .slice B2 q bc] ∧ Kept w4.heap.size [b] w4 w3 ∧ w4.heap.size ≤ w3.heap.size := by
            intro w3 A3 c3 hown3 hb3
            have hb3' : Below wo.heap.size wo w3 := (below_drewN (Below.refl _ wo) 1).trans hb3
            have hown3' : w3.ownsRow wo.heap.size 3 1 (.slice A3 (r.take 6).length c3) (r.take 6).length ((r.take 6).map (Value.int .i64)) := by rw [htl]; exact hown3
            have hor := (HR.out.2.1.below hb3').snoc (b2 := wo.heap.size) hos hown3' (HR.out.2.1.lt)
            rw [← ofV_on HI.out.2.2 h6, htl] at hor
            exact ⟨own_below HR.out.1 hb3', hor, HR.out.2.2.1.below hb3' hbl, HR.out.2.2.2.1.trans (Kept.of_below (hb3'.mono hos) _), by have := hb3'.size; omega⟩
          have HST := Lib.hid hst
          have hkp : ∀ w3, Blk w3 b 30 #[.slice A' nn c', .slice B2 q bc] → w3.cell? ⟨b, 1, none⟩ = some (.slice B2 q bc) ∧ w3.frozen? ⟨b, 1, none⟩ = false := fun w3 hB => ⟨hB.at2.2.1, hB.frozen 1⟩
          have HKP := Lib.hid hkp
          have y0 := hkp wo HR.out.2.2.1
          obtain ⟨y1, y2⟩ := y0
          have y3 : wo.drew.cell? ⟨b, 1, none⟩ = some (.slice B2 q bc) := y1
          have l2 : (min rl 6 : Int) ≤ (cr : Int) := by omega
          have l3 : (0 : Int) ≤ (rl : Int) := by omega
          have l4 : (rl : Int) ≤ (cr : Int) := by omega
          have l6 : (rl : Int) ≤ 6 := by omega
          have l7 : (if (6 : Int) < (rl : Int) then (6 : Int) else (rl : Int)) = (rl : Int) := by rw [if_neg (by omega)]
          clear hst hkp htl
          go_wp2_with fail
          go_region_law (first
              | (go_simp; go_at_call 30; refine (HCL.out _ (below_drewN (Below.refl _ wo) 1)).mono ?_; rintro e w3 ⟨A3, c3, rfl, hown3, hb3⟩; have hq3 := HST.out w3 A3 c3 hown3 hb3; have hc3 := hq3.2.2.1.at2.2.1; have hc3' := fun o => (hq3.2.2.1.alloc o).at2.2.1)
              | (refine step_app1 (w := w3) sty_intss (by rfl) (.tmp 26) (.tmp 33) (by rfl) w4.heap.size B2 q bc vs #[.slice A3 rl c3] (by rfl) (by simp [Value.oneCell']) (by rfl) hq3.1 (by rfl) (by omega) hq3.2.2.2.2 ?_; intro A9 k9 w9 hown4 hg4 hbl4 hk41 hk42; have hc9 := (hq3.2.2.1.below hbl4 (by omega)).at2.2.1; have hf9 := (hq3.2.2.1.below hbl4 (by omega)).frozen 1))
          all_goals
            have hor9 := hq3.2.1.grown hq3.1 hg4
            have hkp9 : Kept w4.heap.size [b] w4 w9 := hq3.2.2.2.1.trans (Kept.of_below hbl4 _)
            have hB9 := hq3.2.2.1.below hbl4 (by omega)
            have H9 := Lib.hid (And.intro hown4 (And.intro hor9 (And.intro hB9 hkp9)))
            clear hown4 hor9 hkp9 hB9 hg4 hbl4 hq3 hc3 hc3' hc9 hf9 hown3 hb3
            go_wp2_with fail
            go_roundw
            case rel =>
              obtain ⟨hown4, hor9, hB9, hkp9⟩ := H9.out
              exact ⟨k + 1, A9, q + 1, k9, _, by omega, by go_num, by rw [ofV_on HI.out.2.2 h6, List.length_append, ← HR.out.2.2.2.2.1]; rfl, own_lowset hown4 (by simp; omega) _, hor9.lowset (by simp; omega) _, hB9.set_ 1 _, hkp9.setCell (.inl (by simp)) _⟩
            case measure => simp [intOf]; omega
        · skip
          have e0 : min rl 6 = 6 := by omega
          have htl : (r.take 6).length = 6 := by rw [List.length_take, ← HI.out.2.1]; omega
          have HCL := Lib.hid fun w' (hb : Below wo.heap.size wo w') => clone_any A2 6 cr (r.take 6) w' htl (by omega) ((HI.out.1.below hb).take 6)
          have hst : ∀ (w3 : World) (A3 : Option Addr) (c3 : Nat), w3.ownsRow wo.drew.heap.size 3 1 (.slice A3 6 c3) 6 ((r.take 6).map (Value.int .i64)) → Below wo.drew.heap.size wo.drew w3 →
              w3.ownsRow w4.heap.size 22 1 (.slice B2 q bc) q vs ∧ ORows w3 w4.heap.size (vs ++ [.slice A3 6 c3]) (ofV (V.take (k + 1))) ∧ Blk w3 b 30 #[.slice A' nn c', .slice B2 q bc] ∧ Kept w4.heap.size [b] w4 w3 ∧ w4.heap.size ≤ w3.heap.size := by
            intro w3 A3 c3 hown3 hb3
            have hb3' : Below wo.heap.size wo w3 := (below_drewN (Below.refl _ wo) 1).trans hb3
            have hown3' : w3.ownsRow wo.heap.size 3 1 (.slice A3 (r.take 6).length c3) (r.take 6).length ((r.take 6).map (Value.int .i64)) := by rw [htl]; exact hown3
            have hor := (HR.out.2.1.below hb3').snoc (b2 := wo.heap.size) hos hown3' (HR.out.2.1.lt)
            rw [← ofV_on HI.out.2.2 h6, htl] at hor
            exact ⟨own_below HR.out.1 hb3', hor, HR.out.2.2.1.below hb3' hbl, HR.out.2.2.2.1.trans (Kept.of_below (hb3'.mono hos) _), by have := hb3'.size; omega⟩
          have HST := Lib.hid hst
          have hkp : ∀ w3, Blk w3 b 30 #[.slice A' nn c', .slice B2 q bc] → w3.cell? ⟨b, 1, none⟩ = some (.slice B2 q bc) ∧ w3.frozen? ⟨b, 1, none⟩ = false := fun w3 hB => ⟨hB.at2.2.1, hB.frozen 1⟩
          have HKP := Lib.hid hkp
          have y0 := hkp wo HR.out.2.2.1
          obtain ⟨y1, y2⟩ := y0
          have y3 : wo.drew.cell? ⟨b, 1, none⟩ = some (.slice B2 q bc) := y1
          have l2 : (min rl 6 : Int) ≤ (cr : Int) := by omega
          have l3 : (0 : Int) ≤ (rl : Int) := by omega
          have l4 : (rl : Int) ≤ (cr : Int) := by omega
          have l6 : (6 : Int) < (rl : Int) := by omega
          have l5 : (6 : Int) ≤ (cr : Int) := by omega
          clear hst hkp htl
          go_wp2_with fail
          go_region_law (first
              | (go_simp; go_at_call 30; refine (HCL.out _ (below_drewN (Below.refl _ wo) 1)).mono ?_; rintro e w3 ⟨A3, c3, rfl, hown3, hb3⟩; have hq3 := HST.out w3 A3 c3 hown3 hb3; have hc3 := hq3.2.2.1.at2.2.1; have hc3' := fun o => (hq3.2.2.1.alloc o).at2.2.1)
              | (refine step_app1 (w := w3) sty_intss (by rfl) (.tmp 26) (.tmp 33) (by rfl) w4.heap.size B2 q bc vs #[.slice A3 6 c3] (by rfl) (by simp [Value.oneCell']) (by rfl) hq3.1 (by rfl) (by omega) hq3.2.2.2.2 ?_; intro A9 k9 w9 hown4 hg4 hbl4 hk41 hk42; have hc9 := (hq3.2.2.1.below hbl4 (by omega)).at2.2.1; have hf9 := (hq3.2.2.1.below hbl4 (by omega)).frozen 1))
          all_goals
            have hor9 := hq3.2.1.grown hq3.1 hg4
            have hkp9 : Kept w4.heap.size [b] w4 w9 := hq3.2.2.2.1.trans (Kept.of_below hbl4 _)
            have hB9 := hq3.2.2.1.below hbl4 (by omega)
            have H9 := Lib.hid (And.intro hown4 (And.intro hor9 (And.intro hB9 hkp9)))
            clear hown4 hor9 hkp9 hB9 hg4 hbl4 hq3 hc3 hc3' hc9 hf9 hown3 hb3
            go_wp2_with fail
            go_roundw
            case rel =>
              obtain ⟨hown4, hor9, hB9, hkp9⟩ := H9.out
              exact ⟨k + 1, A9, q + 1, k9, _, by omega, by go_num, by rw [ofV_on HI.out.2.2 h6, List.length_append, ← HR.out.2.2.2.2.1]; rfl, own_lowset hown4 (by simp; omega) _, hor9.lowset (by simp; omega) _, hB9.set_ 1 _, hkp9.setCell (.inl (by simp)) _⟩
            case measure => simp [intOf]; omega
      · have HE := Lib.hid (ofV_off (L := V) (k := k) (by omega))
        go_wp2_with fail
        go_roundw
        case rel => exact ⟨k + 1, B2, q, bc, vs, by omega, by go_num, by rw [HE.out]; exact HR.out.2.2.2.2.1, HR.out.1, by rw [HE.out]; exact HR.out.2.1, HR.out.2.2.1, HR.out.2.2.2.1⟩
        case measure => simp [intOf]; omega
    · obtain rfl : m = k := by omega
      have hT : V.take m = V := List.take_of_length_le (by rw [H.out.2.2.2.2.1]; exact Nat.le_refl _)
      obtain ⟨hown, hrows, hBk, hkp, hq, hbw⟩ := HR.out
      rw [hT] at hrows hq
      obtain ⟨y0, y1, _, _⟩ := hBk.at2
      have hres : Blk wo (w.heap.size + 1) 30 #[.slice none 0 0, .slice none 0 0] := (H.out.2.2.2.1.below H4.out.2.2.2.1 (by omega)).kept hkp (by omega) (by simp; omega)
      obtain ⟨z1, z2, z3, z4⟩ := hres.at2
      have hz := (Blk.set_ (Blk.set_ hres 0 (.slice A' nn c')) 1 (.slice B2 q bc)).at2
      have HZ := Lib.hid hz
      have hAown : wo.ownsRow w2.heap.size 3 1 (.slice A' nn c') nn ((B.take 6).map (Value.int .i64)) := own_same H4.out.1 (fun ad he hlt => hkp.block _ (by have := H4.out.2.1 ad he; omega) (by have := H4.out.2.1 ad he; simp; omega))
      have HE := Lib.hid (And.intro hown (And.intro hrows (And.intro hq (And.intro hbw hAown))))
      clear hz hres hBk hkp hown hrows hq hbw hAown hT
      go_wp2_with fail
      refine bodyPost_ret (v := .agg #[.slice A' nn c', .slice B2 q bc]) (by simp [results, Try.results15, go_sem, HZ.out.1, HZ.out.2.1]) rfl ⟨A', nn, c', B2, q, bc, w4.heap.size, vs, rfl, ?_⟩
      obtain ⟨hown, hrows, hq, hbw, hAown⟩ := HE.out
      exact {
        ln := by rw [H.out.2.2.2.2.2, H4.out.2.2.2.2]
        lq := hq
        bud := own_mono (own_lowset (own_lowset hAown (by simp; omega) _) (by simp; omega) _) (by omega)
        blt := fun ad he => by have := H4.out.2.1 ad he; omega
        b5le := by omega
        use := own_lowset (own_lowset hown (by simp; omega) _) (by simp; omega) _
        rows := (hrows.lowset (by simp; omega) _).lowset (by simp; omega) _
        below := (hbw.setCell (by simp) _).setCell (by simp) _ }

/- Fractions of small numbers: the contracts of plus, minus, times, over in short. -/

def Sm (q : Rat) : Prop := -2000000 ≤ q.num ∧ q.num ≤ 2000000 ∧ (q.den : Int) ≤ 2000000
theorem sm_mul {a b : Int} (ha : -2000000 ≤ a ∧ a ≤ 2000000) (hb : 0 ≤ b ∧ b ≤ 2000000) : -4000000000000000000 ≤ a * b ∧ a * b ≤ 4000000000000000000 :=
  mul_shrink (a := a) (b := 2000000) (c := b) (m := 4000000000000000000) (by omega) (by omega) hb.1 hb.2
theorem mplus_sm (p q : Rat) (w : World) (hp : Sm p) (hq : Sm q) : Calls Try.prog 48 #[.agg #[.int .i64 p.num, .int .i64 (p.den : Int)], .agg #[.int .i64 q.num, .int .i64 (q.den : Int)]] w fun e w' => e = .returned (.agg #[.int .i64 (p + q).num, .int .i64 ((p + q).den : Int)]) ∧ Below w.heap.size w w' := by
  have p0 := den_pos p
  have q0 := den_pos q
  obtain ⟨p1, p2, p3⟩ := hp
  obtain ⟨q1, q2, q3⟩ := hq
  have a := sm_mul (a := p.num) (b := q.den) ⟨p1, p2⟩ ⟨by omega, q3⟩
  have b := sm_mul (a := q.num) (b := p.den) ⟨q1, q2⟩ ⟨by omega, p3⟩
  have c := sm_mul (a := p.den) (b := q.den) ⟨by omega, p3⟩ ⟨by omega, q3⟩
  exact mplus_raw p q w a.1 a.2 b.1 b.2 c.2 (by omega) (by omega)
theorem mminus_sm (p q : Rat) (w : World) (hp : Sm p) (hq : Sm q) : Calls Try.prog 71 #[.agg #[.int .i64 p.num, .int .i64 (p.den : Int)], .agg #[.int .i64 q.num, .int .i64 (q.den : Int)]] w fun e w' => e = .returned (.agg #[.int .i64 (p - q).num, .int .i64 ((p - q).den : Int)]) ∧ Below w.heap.size w w' := by
  have p0 := den_pos p
  have q0 := den_pos q
  obtain ⟨p1, p2, p3⟩ := hp
  obtain ⟨q1, q2, q3⟩ := hq
  have a := sm_mul (a := p.num) (b := q.den) ⟨p1, p2⟩ ⟨by omega, q3⟩
  have b := sm_mul (a := q.num) (b := p.den) ⟨q1, q2⟩ ⟨by omega, p3⟩
  have c := sm_mul (a := p.den) (b := q.den) ⟨by omega, p3⟩ ⟨by omega, q3⟩
  exact mminus_raw p q w a.1 a.2 b.1 b.2 c.2 (by omega) (by omega) (by omega)
theorem mtimes_sm (p q : Rat) (w : World) (hp : Sm p) (hq : Sm q) (hq0 : 0 ≤ q.num) : Calls Try.prog 49 #[.agg #[.int .i64 p.num, .int .i64 (p.den : Int)], .agg #[.int .i64 q.num, .int .i64 (q.den : Int)]] w fun e w' => e = .returned (.agg #[.int .i64 (p * q).num, .int .i64 ((p * q).den : Int)]) ∧ Below w.heap.size w w' := by
  have p0 := den_pos p
  have q0 := den_pos q
  obtain ⟨p1, p2, p3⟩ := hp
  obtain ⟨q1, q2, q3⟩ := hq
  have a := sm_mul (a := p.num) (b := q.num) ⟨p1, p2⟩ ⟨hq0, q2⟩
  have c := sm_mul (a := p.den) (b := q.den) ⟨by omega, p3⟩ ⟨by omega, q3⟩
  exact mtimes_raw p q w a.1 a.2 c.2 ⟨by omega, by omega⟩ ⟨by omega, by omega⟩ (by omega) (by omega)
theorem mover_sm (p q : Rat) (w : World) (hp : Sm p) (hq : Sm q) (hq0 : 0 < q.num) : Calls Try.prog 50 #[.agg #[.int .i64 p.num, .int .i64 (p.den : Int)], .agg #[.int .i64 q.num, .int .i64 (q.den : Int)]] w fun e w' => e = .returned (.agg #[.int .i64 (p / q).num, .int .i64 ((p / q).den : Int)]) ∧ Below w.heap.size w w' := by
  have p0 := den_pos p
  have q0 := den_pos q
  obtain ⟨p1, p2, p3⟩ := hp
  obtain ⟨q1, q2, q3⟩ := hq
  have a := sm_mul (a := p.num) (b := q.den) ⟨p1, p2⟩ ⟨by omega, q3⟩
  have c := sm_mul (a := p.den) (b := q.num) ⟨by omega, p3⟩ ⟨by omega, q2⟩
  exact mover_raw p q w hq0 a.1 a.2 c.2 ⟨by omega, by omega⟩ (by omega) (by omega) (by omega)
theorem own_someN {w : World} {base e size n c : Nat} {A : Option Addr} {xs : List Value} (h : w.ownsRow base e size (.slice A n c) n xs) (hn : 0 < n) : ∃ g, A = some ⟨g, 0, none⟩ ∧ base ≤ g ∧ g < w.heap.size ∧ ∀ j u, xs[j]? = some u → w.cell? ⟨g, j, none⟩ = some u := by
  have h0 := h
  rcases h.2 with ⟨_, h⟩ | ⟨g, cap, cur, hv, h1, h2, _⟩
  · omega
  · injection hv with e1
    subst e1
    refine ⟨g, rfl, h1, lt_of_block h2, fun j u hu => ?_⟩
    have := h0.cells (g := g) rfl j u hu
    cases j with
    | zero => simpa [Addr.add] using this
    | succ j => simpa [Addr.add] using this

/- The sizes of what a component answers: plain Lean. -/

theorem rat_ne {t : Int} (h : t ≠ 0) : (t : Rat) ≠ 0 := by
  intro e
  exact h (by exact_mod_cast e)
/-- What is left has one denominator t. -/
def LeftB (t : Int) (ord : List Nd) (m : Int) (lf : Nd → Rat) : Prop := ∃ l : Nd → Int, ∀ x ∈ ord, (-m ≤ l x ∧ l x ≤ m) ∧ lf x = (l x : Rat) / (t : Rat)
section
variable {V : List (List Int)} {n first : Nat} {st : CSt} {B : List Int}
theorem CInv.fin (h : CInv V n first st) (hG : goodsN V ≤ 3) (hb : 1 ≤ budOf B st.ord ∧ budOf B st.ord ≤ 120) (hB : ∀ b ∈ B, 1 ≤ b ∧ b ≤ 20) :
    (0 < (totOf st.pq st.ord).num) ∧ (0 < (facOf B st).num ∧ (facOf B st).num ≤ 48000 ∧ ((facOf B st).den : Int) ≤ 1200) ∧ (∀ g, (true, g) ∈ st.ord → 0 < (st.pq g * facOf B st).num ∧ (st.pq g * facOf B st).num ≤ 48000 ∧ ((st.pq g * facOf B st).den : Int) ≤ 1200) ∧
      ∃ t : Int, (1 ≤ t ∧ t ≤ 1200) ∧ LeftB t st.ord 48000 (lf0 B (compPq B st)) := by
  obtain ⟨D, a, ho⟩ := h.one hG
  obtain ⟨t, h1, h2, h3⟩ := ho.tot
  have hc := h.cn hG
  have hc1 := cN_pos (List.mem_of_getElem? h.hd)
  have hD := ho.1
  have ht : 1 ≤ t ∧ t ≤ 1200 := by omega
  have htr := rat_ne (t := t) (by omega)
  have hDr := rat_ne (t := D) (by omega)
  obtain ⟨b, hbe⟩ : ∃ b, b = budOf B st.ord := ⟨_, rfl⟩
  rw [← hbe] at hb
  have hf : facOf B st = ((b * D : Int) : Rat) / (t : Rat) := by
    unfold facOf
    rw [h3, ← hbe, Rat.intCast_mul]
    grind
  have up : ∀ {s u m p : Int}, 1 ≤ s → s ≤ m → 1 ≤ u → u ≤ p → 1 ≤ s * u ∧ s * u ≤ m * p := fun {s u m p} h1 h2 h3 h4 =>
    ⟨by have := Int.mul_le_mul h1 h3 (by omega) (by omega); simpa using this, Int.mul_le_mul h2 h4 (by omega) (by omega)⟩
  have hbd := up hb.1 hb.2 hD.1 hD.2
  have hpf : ∀ g, (true, g) ∈ st.ord → st.pq g * facOf B st = ((a g * b : Int) : Rat) / (t : Rat) ∧ 1 ≤ a g * b ∧ a g * b ≤ 48000 := fun g hg => by
    obtain ⟨g1, g2⟩ := ho.2 g hg
    have := up g1.1 g1.2 hb.1 hb.2
    refine ⟨?_, this.1, this.2⟩
    rw [g2, hf, Rat.intCast_mul, Rat.intCast_mul]
    grind
  have h5 := frac_pos (by omega) (by omega) h3
  have h6 := frac_pos (by omega) (by omega) hf
  refine ⟨h5.1, ⟨h6.1, by omega, by omega⟩, fun g hg => ?_, t, ht, fun x => if x.1 then a x.2 * b else B.getD x.2 0 * t, fun x hx => ?_⟩
  · obtain ⟨e1, e2, e3⟩ := hpf g hg
    have := frac_pos (by omega) (by omega) e1
    exact ⟨this.1, by omega, by omega⟩
  · obtain ⟨c, i⟩ := x
    cases c
    · have hx : 0 ≤ B.getD i 0 ∧ B.getD i 0 ≤ 20 := by
        rw [List.getD_eq_getElem?_getD]
        cases hb : B[i]? with
        | none => exact ⟨Int.le_refl _, by decide⟩
        | some b => have := hB b (List.mem_of_getElem? hb); simp; omega
      have hm : 0 ≤ B.getD i 0 * t ∧ B.getD i 0 * t ≤ 20 * 1200 := ⟨Int.mul_nonneg hx.1 (by omega), Int.mul_le_mul hx.2 ht.2 (by omega) (by omega)⟩
      simp only [Bool.false_eq_true, if_false]
      refine ⟨by omega, ?_⟩
      unfold lf0
      simp only [Bool.false_eq_true, if_false]
      rw [Rat.intCast_mul]
      grind
    · obtain ⟨e1, e2, e3⟩ := hpf i hx
      simp only [if_true]
      refine ⟨by omega, ?_⟩
      unfold lf0 compPq scaTo
      simp only [if_true, List.take_length]
      rw [if_pos hx]
      exact e1
theorem LeftB.bk {t : Int} (ht : 1 ≤ t) {lf : Nd → Rat} {sp : Nat → Nat → Rat} (h : CInv V n first st) (hl : LeftB t st.ord 48000 lf) : ∀ c, c + 1 ≤ st.ord.length → LeftB t st.ord (48000 * 2 ^ c) (bkTo st.ord st.par lf sp c).1 := by
  intro c
  induction c with
  | zero => intro _; simpa [bkTo] using hl
  | succ c ih =>
    intro hc
    obtain ⟨l, hl⟩ := ih (by omega)
    have htr := rat_ne (t := t) (by omega)
    have hj : st.ord.length - 1 - c < st.ord.length := by omega
    have hx := List.getElem?_eq_getElem hj
    have hxe : st.ord.getD (st.ord.length - 1 - c) (false, 0) = st.ord[st.ord.length - 1 - c] := by rw [List.getD_eq_getElem?_getD, hx]; rfl
    have hxm : st.ord[st.ord.length - 1 - c] ∈ st.ord := List.getElem_mem hj
    obtain ⟨⟨i, _, hi⟩, _, _⟩ := h.par _ _ hx (by omega)
    have hpm := List.mem_of_getElem? hi
    generalize st.ord[st.ord.length - 1 - c] = x at hxe hxm hpm
    have hP : (0 : Int) < 2 ^ c := Int.pow_pos (by decide)
    refine ⟨upd l (st.par x) (l (st.par x) - l x), fun z hz => ?_⟩
    simp only [bkTo]
    rw [hxe, Int.pow_succ]
    by_cases e : z = st.par x
    · rw [e, upd_same, upd_same]
      obtain ⟨p1, p2⟩ := hl _ hpm
      obtain ⟨q1, q2⟩ := hl _ hxm
      refine ⟨by omega, ?_⟩
      rw [p2, q2, Rat.intCast_sub]
      grind
    · rw [upd_other _ _ _ e, upd_other _ _ _ e]
      obtain ⟨p1, p2⟩ := hl _ hz
      exact ⟨by omega, p2⟩
theorem LeftB.sm {t : Int} (ht : 1 ≤ t ∧ t ≤ 1200) {lf : Nd → Rat} {ord : List Nd} {c : Nat} (hc : c ≤ 5) (h : LeftB t ord (48000 * 2 ^ c) lf) {x : Nd} (hx : x ∈ ord) : -1536000 ≤ (lf x).num ∧ (lf x).num ≤ 1536000 ∧ ((lf x).den : Int) ≤ 1200 := by
  obtain ⟨l, hl⟩ := h
  obtain ⟨h1, h2⟩ := hl x hx
  obtain ⟨b1, b2⟩ := frac_bd (by omega) h2
  have hp : (2 : Int) ^ c ≤ 32 := by
    have : c = 0 ∨ c = 1 ∨ c = 2 ∨ c = 3 ∨ c = 4 ∨ c = 5 := by omega
    rcases this with rfl | rfl | rfl | rfl | rfl | rfl <;> decide
  omega
end

/- The spendings that a component writes. -/

structure SpIn (w0 w : World) (bb PB dm SB n k : Nat) (R : Nat → Nat) (sp : Nat → Nat → Rat) : Prop where
  sb : w.cell? ⟨bb, 1, none⟩ = some (.slice (some ⟨SB, 0, none⟩) n n)
  row : ∀ i, i < n → w.cell? ⟨SB, i, none⟩ = some (.slice (some ⟨R i, 0, none⟩) k k)
  blk : ∀ i, i < n → PrB w (R i) 77 (spOf k (sp i))
  inj : ∀ i j, i < n → j < n → i ≠ j → R i ≠ R j
  rne : ∀ i, i < n → R i ≠ PB ∧ R i ≠ dm ∧ R i ≠ bb ∧ R i ≠ SB ∧ w0.heap.size ≤ R i
  sne : SB ≠ PB ∧ SB ≠ dm ∧ SB < w.heap.size
theorem upd_true {don : Nd → Bool} {x : Nd} (h : don x = true) : upd don x true = don := by
  funext z
  unfold upd
  split
  · rename_i e; rw [e, h]
  · rfl
theorem scaTo_not {f : Rat} {ord : List Nd} {pq : Nat → Rat} {i g : Nat} (hn : ord.Nodup) (h : ord[i]? = some (true, g)) : scaTo f ord pq i g = pq g := by
  have ht : ord.take (i + 1) = ord.take i ++ [(true, g)] := by rw [List.take_add_one, h]; rfl
  unfold scaTo
  rw [if_neg]
  intro hm
  have hnn : (ord.take (i + 1)).Nodup := (List.take_sublist _ _).nodup hn
  rw [ht, List.nodup_append] at hnn
  exact hnn.2.2 _ hm _ (by simp) rfl
theorem scaTo_zero (f : Rat) (ord : List Nd) (pq : Nat → Rat) : scaTo f ord pq 0 = pq := by
  funext g
  unfold scaTo
  rw [if_neg (by simp)]
/-- What the map of what is left gives while the first i nodes are laid. -/
def leftV (lf : Nd → Rat) (ord : List Nd) (i : Nat) (x : Nd) : Value := if x ∈ ord.take i then .agg #[.int .i64 (lf x).num, .int .i64 ((lf x).den : Int)] else .agg #[.int .i64 0, .int .i64 0]
theorem leftV_next {lf : Nd → Rat} {ord : List Nd} {i : Nat} {x : Nd} (h : ord[i]? = some x) : leftV lf ord (i + 1) = fun y => if y = x then .agg #[.int .i64 (lf x).num, .int .i64 ((lf x).den : Int)] else leftV lf ord i y := by
  have ht : ord.take (i + 1) = ord.take i ++ [x] := by rw [List.take_add_one, h]; rfl
  funext y
  unfold leftV
  rw [ht]
  by_cases e : y = x
  · subst e
    rw [if_pos (by simp), if_pos rfl]
  · rw [if_neg e]
    have : (y ∈ ord.take i ++ [x]) ↔ y ∈ ord.take i := by simp [e]
    simp only [this]
theorem leftV_zero (lf : Nd → Rat) (ord : List Nd) : leftV lf ord 0 = fun _ => .agg #[.int .i64 0, .int .i64 0] := by
  funext y
  unfold leftV
  rw [if_neg (by simp)]
theorem spOf_get {k : Nat} (f : Nat → Rat) {g : Nat} (hg : g < k) : (spOf k f)[g]? = some ((f g).num, ((f g).den : Int)) := by
  unfold spOf
  rw [List.getElem?_map, List.getElem?_range hg]
  rfl
theorem spOf_set {k : Nat} (f : Nat → Nat → Rat) (i g : Nat) (q : Rat) : (spOf k (f i)).set g (q.num, (q.den : Int)) = spOf k (upd2 f i g q i) := by
  apply List.ext_getElem?
  intro h
  rw [List.getElem?_set]
  by_cases e : g = h
  · subst e
    rw [if_pos rfl]
    by_cases hg : g < k
    · rw [if_pos (by simpa [spOf] using hg), spOf_get _ hg]
      unfold upd2
      rw [if_pos ⟨rfl, rfl⟩]
    · rw [if_neg (by simpa [spOf] using hg), List.getElem?_eq_none (by simp [spOf]; omega)]
  · rw [if_neg e]
    by_cases hh : h < k
    · rw [spOf_get _ hh, spOf_get _ hh]
      unfold upd2
      rw [if_neg (by intro e'; exact e e'.2.symm)]
    · rw [List.getElem?_eq_none (by simp [spOf]; omega), List.getElem?_eq_none (by simp [spOf]; omega)]
theorem upd2_other {f : Nat → Nat → Rat} {i g : Nat} {q : Rat} {j : Nat} (h : j ≠ i) : upd2 f i g q j = f j := by
  funext g'
  unfold upd2
  rw [if_neg (by intro e; exact h e.1)]
theorem leftV_get {lf : Nd → Rat} {ord : List Nd} {x : Nd} (h : x ∈ ord) : leftV lf ord ord.length x = .agg #[.int .i64 (lf x).num, .int .i64 ((lf x).den : Int)] := by
  unfold leftV
  rw [if_pos (by rw [List.take_length]; exact h)]
theorem leftV_upd {lf : Nd → Rat} {ord : List Nd} {x : Nd} (h : x ∈ ord) (q : Rat) : leftV (upd lf x q) ord ord.length = fun y => if y = x then .agg #[.int .i64 q.num, .int .i64 (q.den : Int)] else leftV lf ord ord.length y := by
  funext y
  unfold leftV
  rw [List.take_length]
  by_cases e : y = x
  · subst e
    rw [if_pos h, if_pos rfl, upd_same]
  · rw [if_neg e, upd_other _ _ _ e]
theorem bkTo_next {ord : List Nd} {par : Nd → Nd} {lf : Nd → Rat} {sp : Nat → Nat → Rat} {c j : Nat} {x : Nd} (hj : c + j + 1 = ord.length) (h : ord[j]? = some x) :
    bkTo ord par lf sp (c + 1) = (upd (bkTo ord par lf sp c).1 (par x) ((bkTo ord par lf sp c).1 (par x) - (bkTo ord par lf sp c).1 x), upd2 (bkTo ord par lf sp c).2 (if x.1 then (par x).2 else x.2) (if x.1 then x.2 else (par x).2) ((bkTo ord par lf sp c).1 x)) := by
  have e : ord.getD (ord.length - 1 - c) (false, 0) = x := by
    rw [show ord.length - 1 - c = j by omega, List.getD_eq_getElem?_getD, h]; rfl
  simp only [bkTo, e]
/-- The rows of what is spent. -/
def SpRows (w : World) (n k : Nat) (R : Nat → Nat) (sp : Nat → Nat → Rat) : Prop := ∀ i, i < n → PrB w (R i) 77 (spOf k (sp i))
theorem SpRows.far {w : World} {n k : Nat} {R : Nat → Nat} {sp : Nat → Nat → Rat} (h : SpRows w n k R sp) {w' : World} (hb : ∀ i, i < n → w'.heap[R i]? = w.heap[R i]?) : SpRows w' n k R sp := fun i hi => (hb i hi).trans (h i hi)
/-- One of them is written. -/
theorem SpRows.put {w : World} {n k : Nat} {R : Nat → Nat} {sp : Nat → Nat → Rat} (h : SpRows w n k R sp) (inj : ∀ i j, i < n → j < n → i ≠ j → R i ≠ R j) {b : Nat} (hb : b < n) (g : Nat) (q : Rat) :
    SpRows ((w.setCell ⟨R b, g * 2, none⟩ (.int .i64 q.num)).setCell ⟨R b, g * 2 + 1, none⟩ (.int .i64 (q.den : Int))) n k R (upd2 sp b g q) := by
  intro i hi
  by_cases e : i = b
  · subst e
    have := (h i hi).set_ g q.num q.den
    rw [spOf_set] at this
    exact this
  · rw [upd2_other e]
    exact Blk.far (Blk.far (h i hi) (inj i b hi hb e) _) (inj i b hi hb e) _
/-- The end of a component. -/
theorem CompPost.fin {B : List Int} {V : List (List Int)} {e n k first : Nat} {don : Nd → Bool} {pq : Nat → Rat} {sp : Nat → Nat → Rat} {w : World} {dm PB N0 : Nat} {R : Nat → Nat} {w' : World} {st : CSt}
    (h1 : compF V e n k first don pq = some st) (h0 : budOf B st.ord ≠ 0) (hk : Kept w.heap.size (dm :: PB :: (List.range n).map R) w w')
    (hp : PrB w' PB 77 (psOf k st.don (compPq B st))) (hd : MapN w' dm (N0 + 6) (.bool false) (fun z => .bool (st.don z))) (hr : SpRows w' n k R (compBk B st sp).2) :
    CompPost B V e n k first don pq sp w dm PB N0 R (.returned (.bool (decide ((compBk B st sp).1 (true, first) = 0)))) w' := by
  refine ⟨hk, ?_⟩
  rw [compB_fin sp h1 h0]
  cases decide ((compBk B st sp).1 (true, first) = 0)
  · rfl
  · exact ⟨rfl, hp, hd, hr⟩
theorem mem_rows {n : Nat} {R : Nat → Nat} {b : Nat} (hb : b < n) : R b ∈ (List.range n).map R := List.mem_map.2 ⟨b, List.mem_range.2 hb, rfl⟩

/- What solve finds: plain Lean. -/

/-- What is true of the search besides. -/
structure SInv (V : List (List Int)) (n first : Nat) (don : Nd → Bool) (pq : Nat → Rat) (st : CSt) : Prop where
  inv : CInv V n first st
  dn : ∀ z, st.don z = true ↔ don z = true ∨ z ∈ st.ord
  pr : ∀ g, (true, g) ∉ st.ord → st.pq g = pq g
theorem SInv.start {V : List (List Int)} {n first : Nat} (don : Nd → Bool) (pq : Nat → Rat) (hf : first < goodsN V) : SInv V n first don pq (start0 don pq first) where
  inv := CInv.start don pq hf
  dn := by
    intro z
    show upd don (true, first) true z = true ↔ _ ∨ z ∈ [(true, first)]
    unfold upd
    rw [List.mem_singleton]
    split
    · simp [*]
    · simp [*]
  pr := by
    intro g hg
    refine upd_other _ _ _ ?_
    intro e
    exact hg (by subst e; simp [start0])
theorem SInv.step {V : List (List Int)} {n first : Nat} {don : Nd → Bool} {pq : Nat → Rat} {st : CSt} (h : SInv V n first don pq st) (hu : ∀ i g, 0 ≤ useN V i g ∧ useN V i g ≤ 20) {k : Nat} {x : Nd} {y : Nat} (hx : st.ord[k]? = some x)
    (hy1 : buyerOf x y < n) (hy2 : goodOf x y < goodsN V) (hd : st.don (nextOf x y) = false) (h0 : useN V (buyerOf x y) (goodOf x y) ≠ 0) : SInv V n first don pq (stepC V st x y) where
  inv := h.inv.step hu hx hy1 hy2 hd h0
  dn := by
    intro z
    show upd st.don (nextOf x y) true z = true ↔ _ ∨ z ∈ st.ord ++ [nextOf x y]
    rw [List.mem_append, List.mem_singleton]
    unfold upd
    split
    · simp [*]
    · rw [h.dn z]
      rename_i hne
      simp [hne]
  pr := by
    intro g hg
    have hg' : (true, g) ∉ st.ord ++ [nextOf x y] := hg
    rw [List.mem_append, List.mem_singleton] at hg'
    show (if x.1 then st.pq else upd st.pq y (relP V st x y)) g = _
    cases hb : x.1
    · simp only [Bool.false_eq_true, if_false]
      rw [upd_other _ _ _ (fun e => hg' (.inr (by subst e; simp [nextOf, hb])))]
      exact h.pr g fun hm => hg' (.inl hm)
    · simp only [if_true]
      exact h.pr g fun hm => hg' (.inl hm)
theorem SInv.visit {V : List (List Int)} {e n first : Nat} {don : Nd → Bool} {pq : Nat → Rat} {st st' : CSt} (h : SInv V n first don pq st) (hu : ∀ i g, 0 ≤ useN V i g ∧ useN V i g ≤ 20) {k : Nat} {x : Nd} {y : Nat} (hx : st.ord[k]? = some x)
    (hv : visit V e n k st x y = some st') : SInv V n first don pq st' ∧ st'.ord[k]? = some x := by
  unfold Go.Proofs.Ytnljnjnmhbkdoaa.visit at hv
  by_cases hs : skipB V e n k st x y = true
  · rw [if_pos hs] at hv
    injection hv with hv
    subst hv
    exact ⟨h, hx⟩
  · rw [if_neg hs] at hv
    by_cases hc : (st.don (nextOf x y) || decide (useN V (buyerOf x y) (goodOf x y) = 0)) = true
    · rw [if_pos hc] at hv; cases hv
    · rw [if_neg hc] at hv
      injection hv with hv
      subst hv
      simp only [skipB, Bool.or_eq_true, decide_eq_true_eq, not_or] at hs
      simp only [Bool.or_eq_true, decide_eq_true_eq, not_or] at hc
      refine ⟨h.step hu hx (by omega) (by omega) (by simpa using hc.1) hc.2, ?_⟩
      show (st.ord ++ [nextOf x y])[k]? = _
      rw [List.getElem?_append_left (List.getElem?_eq_some_iff.1 hx).1]
      exact hx
theorem SInv.visitTo {V : List (List Int)} {e n first : Nat} {don : Nd → Bool} {pq : Nat → Rat} {st : CSt} (h : SInv V n first don pq st) (hu : ∀ i g, 0 ≤ useN V i g ∧ useN V i g ≤ 20) {k : Nat} {x : Nd} (hx : st.ord[k]? = some x) :
    ∀ (y : Nat) (st' : CSt), visitTo V e n k st x y = some st' → SInv V n first don pq st' ∧ st'.ord[k]? = some x
  | 0, st', hv => by injection hv with hv; subst hv; exact ⟨h, hx⟩
  | y + 1, st', hv => by
    simp only [Go.Proofs.Ytnljnjnmhbkdoaa.visitTo] at hv
    cases h1 : Go.Proofs.Ytnljnjnmhbkdoaa.visitTo V e n k st x y with
    | none => rw [h1] at hv; cases hv
    | some s =>
      rw [h1] at hv
      obtain ⟨h2, h3⟩ := SInv.visitTo h hu hx y s h1
      exact h2.visit hu h3 hv
theorem SInv.srch {V : List (List Int)} {e n M first : Nat} {don : Nd → Bool} {pq : Nat → Rat} {st : CSt} (h : SInv V n first don pq st) (hu : ∀ i g, 0 ≤ useN V i g ∧ useN V i g ≤ 20) :
    ∀ (k : Nat) (st' : CSt), srchTo V e n M st k = some st' → SInv V n first don pq st'
  | 0, st', hv => by injection hv with hv; subst hv; exact h
  | k + 1, st', hv => by
    simp only [srchTo] at hv
    cases h1 : srchTo V e n M st k with
    | none => rw [h1] at hv; cases hv
    | some s =>
      rw [h1] at hv
      simp only [Option.bind_some] at hv
      have h2 := SInv.srch h hu k s h1
      cases h3 : s.ord[k]? with
      | none => rw [h3] at hv; injection hv with hv; subst hv; exact h2
      | some x => rw [h3] at hv; exact (h2.visitTo hu h3 _ _ hv).1
theorem compF_inv {V : List (List Int)} {e n k first : Nat} {don : Nd → Bool} {pq : Nat → Rat} {st : CSt} (hu : ∀ i g, 0 ≤ useN V i g ∧ useN V i g ≤ 20) (hf : first < goodsN V) (h : compF V e n k first don pq = some st) : SInv V n first don pq st :=
  (SInv.start don pq hf).srch hu 6 st h
theorem compB_inv {B : List Int} {V : List (List Int)} {e n k first : Nat} {don : Nd → Bool} {pq : Nat → Rat} {sp : Nat → Nat → Rat} {st : CSt} (h : compB B V e n k first don pq sp = some st) :
    compF V e n k first don pq = some st ∧ budOf B st.ord ≠ 0 ∧ (compBk B st sp).1 (true, first) = 0 := by
  unfold compB at h
  cases h1 : compF V e n k first don pq with
  | none => rw [h1] at h; cases h
  | some s =>
    rw [h1] at h
    simp only at h
    by_cases hc : compOk B s sp first = true
    · rw [if_pos hc] at h
      injection h with h
      subst h
      simp only [compOk, Bool.and_eq_true, Bool.not_eq_true', decide_eq_false_iff_not, decide_eq_true_eq] at hc
      exact ⟨rfl, hc.1, hc.2⟩
    · rw [if_neg hc] at h; cases h
/-- What is done, the prices and the spendings. -/
structure SolS where
  don : Nd → Bool
  pq : Nat → Rat
  sp : Nat → Nat → Rat
def sol0 : SolS := ⟨fun _ => false, fun _ => 0, fun _ _ => 0⟩
def solStep (B : List Int) (V : List (List Int)) (e n k g : Nat) (s : SolS) : Option SolS :=
  if s.don (true, g) then some s else (compB B V e n k g s.don s.pq s.sp).map fun st => ⟨st.don, compPq B st, (compBk B st s.sp).2⟩
def solTo (B : List Int) (V : List (List Int)) (e n k : Nat) : Nat → Option SolS
  | 0 => some sol0
  | g + 1 => (solTo B V e n k g).bind (solStep B V e n k g)
theorem solTo_none {B : List Int} {V : List (List Int)} {e n k g : Nat} (h : solTo B V e n k g = none) : ∀ z, g ≤ z → solTo B V e n k z = none := by
  intro z hz
  induction z with
  | zero => rw [show g = 0 by omega] at h; exact h
  | succ z ih =>
    rcases Nat.lt_or_ge g (z + 1) with h1 | h1
    · simp only [solTo]; rw [ih (by omega)]; rfl
    · rw [show z + 1 = g by omega]; exact h
def solP (k : Nat) (s : SolS) : List Rat := (List.range k).map s.pq
def solS (n k : Nat) (s : SolS) : List (List Rat) := (List.range n).map fun i => (List.range k).map (s.sp i)
def allDon (n : Nat) (s : SolS) : Bool := (List.range n).all fun i => s.don (false, i)
/-- What solve finds. -/
def solF (B : List Int) (V : List (List Int)) (e n k : Nat) : Option (List Rat × List (List Rat)) :=
  match solTo B V e n k k with
  | none => none
  | some s => if allDon n s && balB B V (solP k s) (solS n k s) then some (solP k s, solS n k s) else none
theorem LeftB.spb {t m : Int} (ht : 1 ≤ t ∧ t ≤ 1200) (hm : m ≤ 768000) {lf : Nd → Rat} {ord : List Nd} (h : LeftB t ord m lf) {x : Nd} (hx : x ∈ ord) : -768000 ≤ (lf x).num ∧ (lf x).num ≤ 768000 ∧ ((lf x).den : Int) ≤ 1200 := by
  obtain ⟨l, hl⟩ := h
  obtain ⟨h1, h2⟩ := hl x hx
  obtain ⟨b1, b2⟩ := frac_bd (by omega) h2
  omega
theorem upd2_ok {P : Rat → Prop} {f : Nat → Nat → Rat} {i g : Nat} {q : Rat} (h : ∀ i g, P (f i g)) (hq : P q) : ∀ i' g', P (upd2 f i g q i' g') := by
  intro i' g'
  unfold upd2
  split
  · exact hq
  · exact h _ _
/-- Small prices, small spendings. -/
def PrS (q : Rat) : Prop := 1 ≤ q.num ∧ q.num ≤ 48000 ∧ (q.den : Int) ≤ 1200
def SpS (q : Rat) : Prop := -768000 ≤ q.num ∧ q.num ≤ 768000 ∧ (q.den : Int) ≤ 1200
theorem PrS.ok {q : Rat} (h : PrS q) : PrOk q := ⟨h.1, by have := h.2.1; omega, by have := h.2.2; omega⟩
theorem SpS.ok {q : Rat} (h : SpS q) : SpB q := ⟨by have := h.1; omega, by have := h.2.1; omega, by have := h.2.2; omega⟩
/-- The sizes of what solve has reckoned. -/
structure SolOk (k g : Nat) (s : SolS) : Prop where
  dg : ∀ h, h < g → s.don (true, h) = true
  pok : ∀ h, s.don (true, h) = true → PrS (s.pq h)
  sok : ∀ i h, SpS (s.sp i h)
theorem SolOk.zero (k : Nat) : SolOk k 0 sol0 where
  dg := by intro h hh; omega
  pok := by intro h hh; cases hh
  sok := by
    intro i h
    have h0 : SpS 0 := ⟨by decide, by decide, by decide⟩
    exact h0
section
variable {B : List Int} {V : List (List Int)} {e n k : Nat}
theorem comp_ok (hu : ∀ i g, 0 ≤ useN V i g ∧ useN V i g ≤ 20) (hB : ∀ b ∈ B, 1 ≤ b ∧ b ≤ 20) (hk : k ≤ 3) (hn : n ≤ 3) (hG : goodsN V = k) {g : Nat} (hg : g < k) {s : SolS} (hs : SolOk k g s) {st : CSt}
    (h : compB B V e n k g s.don s.pq s.sp = some st) : SolOk k (g + 1) ⟨st.don, compPq B st, (compBk B st s.sp).2⟩ := by
  obtain ⟨h1, h2, _⟩ := compB_inv h
  have hi := compF_inv hu (by omega) h1
  have hbb : 0 ≤ budOf B st.ord ∧ budOf B st.ord ≤ 20 * st.ord.length := budOf_bd hB st.ord
  have hlen := hi.inv.len (by omega) hn
  obtain ⟨_, _, f3, t, ht, hl⟩ := hi.inv.fin (B := B) (by omega) ⟨by omega, by omega⟩ hB
  refine ⟨fun h hh => ?_, fun h hh => ?_, ?_⟩
  · rw [show h = h from rfl]
    show st.don (true, h) = true
    rw [hi.dn]
    rcases Nat.lt_or_ge h g with h3 | h3
    · exact .inl (hs.dg h h3)
    · exact .inr (by rw [show h = g by omega]; exact List.mem_of_getElem? hi.inv.hd)
  · show PrS (scaTo (facOf B st) st.ord st.pq st.ord.length h)
    unfold scaTo
    rw [List.take_length]
    by_cases hm : (true, h) ∈ st.ord
    · rw [if_pos hm]
      obtain ⟨a1, a2, a3⟩ := f3 h hm
      exact ⟨by omega, by omega, by omega⟩
    · rw [if_neg hm, hi.pr h hm]
      refine hs.pok h ?_
      rcases (hi.dn _).1 hh with h4 | h4
      · exact h4
      · exact absurd h4 hm
  · show ∀ i h, SpS ((compBk B st s.sp).2 i h)
    unfold compBk
    have key : ∀ c, c + 1 ≤ st.ord.length → ∀ i h, SpS ((bkTo st.ord st.par (lf0 B (compPq B st)) s.sp c).2 i h) := by
      intro c
      induction c with
      | zero => intro _; exact hs.sok
      | succ c ih =>
        intro hc
        have hj : st.ord.length - 1 - c < st.ord.length := by omega
        have hb := hl.bk ht.1 (sp := s.sp) hi.inv c (by omega)
        have hc4 : c = 0 ∨ c = 1 ∨ c = 2 ∨ c = 3 ∨ c = 4 := by omega
        rw [bkTo_next (j := st.ord.length - 1 - c) (by omega) (List.getElem?_eq_getElem hj)]
        refine upd2_ok (ih (by omega)) (hb.spb ht ?_ (List.getElem_mem hj))
        rcases hc4 with rfl | rfl | rfl | rfl | rfl <;> decide
    have hp : 0 < st.ord.length := (List.getElem?_eq_some_iff.1 hi.inv.hd).1
    exact key _ (by omega)
theorem step_ok (hu : ∀ i g, 0 ≤ useN V i g ∧ useN V i g ≤ 20) (hB : ∀ b ∈ B, 1 ≤ b ∧ b ≤ 20) (hk : k ≤ 3) (hn : n ≤ 3) (hG : goodsN V = k) {g : Nat} (hg : g < k) {s s' : SolS} (hs : SolOk k g s)
    (h : solStep B V e n k g s = some s') : SolOk k (g + 1) s' := by
  unfold solStep at h
  by_cases hd : s.don (true, g) = true
  · rw [if_pos hd] at h
    injection h with h
    subst h
    refine ⟨fun h hh => ?_, hs.pok, hs.sok⟩
    rcases Nat.lt_or_ge h g with h3 | h3
    · exact hs.dg h h3
    · rw [show h = g by omega]; exact hd
  · rw [if_neg hd] at h
    cases h1 : compB B V e n k g s.don s.pq s.sp with
    | none => rw [h1] at h; cases h
    | some st =>
      rw [h1] at h
      injection h with h
      subst h
      exact comp_ok hu hB hk hn hG hg hs h1
end
theorem psOf_all {k : Nat} {s : SolS} (h : SolOk k k s) : psOf k s.don s.pq = (solP k s).map pr := by
  unfold psOf solP
  rw [List.map_map]
  refine List.map_congr_left fun g hg => ?_
  rw [h.dg g (List.mem_range.1 hg)]
  rfl
theorem solP_sm {k : Nat} {s : SolS} (h : SolOk k k s) : ∀ q ∈ solP k s, PrS q := by
  intro q hq
  obtain ⟨g, hg, rfl⟩ := List.mem_map.1 hq
  exact h.pok g (h.dg g (List.mem_range.1 hg))
theorem solS_sm {n k : Nat} {s : SolS} (h : SolOk k k s) : ∀ r ∈ solS n k s, ∀ q ∈ r, SpS q := by
  intro r hr q hq
  obtain ⟨i, _, rfl⟩ := List.mem_map.1 hr
  obtain ⟨g, _, rfl⟩ := List.mem_map.1 hq
  exact h.sok i g
theorem solP_ok {k : Nat} {s : SolS} (h : SolOk k k s) : ∀ q ∈ solP k s, PrOk q := fun q hq => (solP_sm h q hq).ok
theorem solS_ok {n k : Nat} {s : SolS} (h : SolOk k k s) : ∀ r ∈ solS n k s, ∀ q ∈ r, SpB q := fun r hr q hq => (solS_sm h r hr q hq).ok
section
variable {B : List Int} {V : List (List Int)} {e n k : Nat}
theorem solTo_ok (hu : ∀ i g, 0 ≤ useN V i g ∧ useN V i g ≤ 20) (hB : ∀ b ∈ B, 1 ≤ b ∧ b ≤ 20) (hk : k ≤ 3) (hn : n ≤ 3) (hG : goodsN V = k) : ∀ (g : Nat) (s : SolS), g ≤ k → solTo B V e n k g = some s → SolOk k g s
  | 0, s, _, h => by injection h with h; subst h; exact SolOk.zero k
  | g + 1, s, hg, h => by
    simp only [solTo] at h
    cases h1 : solTo B V e n k g with
    | none => rw [h1] at h; cases h
    | some s1 =>
      rw [h1] at h
      exact step_ok hu hB hk hn hG (by omega) (solTo_ok hu hB hk hn hG g s1 (by omega) h1) h
/-- What is found is in balance, and small. -/
structure SolR (B : List Int) (V : List (List Int)) (n k : Nat) (r : List Rat × List (List Rat)) : Prop where
  bal : balB B V r.1 r.2 = true
  lp : r.1.length = k
  ls : r.2.length = n
  lr : ∀ x ∈ r.2, x.length = k
  ps : ∀ q ∈ r.1, PrS q
  ss : ∀ x ∈ r.2, ∀ q ∈ x, SpS q
theorem solF_ok (hu : ∀ i g, 0 ≤ useN V i g ∧ useN V i g ≤ 20) (hB : ∀ b ∈ B, 1 ≤ b ∧ b ≤ 20) (hk : k ≤ 3) (hn : n ≤ 3) (hG : goodsN V = k) {r : List Rat × List (List Rat)} (h : solF B V e n k = some r) : SolR B V n k r := by
  unfold solF at h
  cases h1 : solTo B V e n k k with
  | none => rw [h1] at h; cases h
  | some s =>
    rw [h1] at h
    have ho := solTo_ok hu hB hk hn hG k s (Nat.le_refl _) h1
    simp only at h
    by_cases hc : (allDon n s && balB B V (solP k s) (solS n k s)) = true
    · rw [if_pos hc] at h
      injection h with h
      subst h
      rw [Bool.and_eq_true] at hc
      exact ⟨hc.2, by simp [solP], by simp [solS], by
        intro x hx
        obtain ⟨i, _, rfl⟩ := List.mem_map.1 hx
        simp, solP_sm ho, solS_sm ho⟩
    · rw [if_neg hc] at h; cases h
end

/- Edges without a cycle: the search never fails. Plain Lean. -/

def onesV (n k : Nat) : List (List Int) := List.replicate n (List.replicate k 1)
/-- The search alone. -/
def strTo (n k e : Nat) : Nat → Option (Nd → Bool)
  | 0 => some fun _ => false
  | g + 1 => (strTo n k e g).bind fun don => if don (true, g) then some don else (compF (onesV n k) e n k g don (fun _ => 0)).map (·.don)
/-- The cycles of three buyers and three goods: what is taken, what is given. -/
def cycles : List (List (Nat × Nat) × List (Nat × Nat)) :=
  [([(0, 0), (1, 1)], [(0, 1), (1, 0)]), ([(0, 0), (1, 2)], [(0, 2), (1, 0)]), ([(0, 1), (1, 2)], [(0, 2), (1, 1)]),
   ([(0, 0), (2, 1)], [(0, 1), (2, 0)]), ([(0, 0), (2, 2)], [(0, 2), (2, 0)]), ([(0, 1), (2, 2)], [(0, 2), (2, 1)]),
   ([(1, 0), (2, 1)], [(1, 1), (2, 0)]), ([(1, 0), (2, 2)], [(1, 2), (2, 0)]), ([(1, 1), (2, 2)], [(1, 2), (2, 1)]),
   ([(0, 0), (1, 1), (2, 2)], [(0, 1), (1, 2), (2, 0)]), ([(0, 0), (1, 1), (2, 2)], [(0, 2), (1, 0), (2, 1)]), ([(0, 1), (1, 2), (2, 0)], [(0, 2), (1, 0), (2, 1)]),
   ([(0, 0), (1, 2), (2, 1)], [(0, 1), (1, 0), (2, 2)]), ([(0, 0), (1, 2), (2, 1)], [(0, 2), (1, 1), (2, 0)]), ([(0, 1), (1, 0), (2, 2)], [(0, 2), (1, 1), (2, 0)])]
def inE (n k e : Nat) (x : Nat × Nat) : Bool := decide (x.1 < n) && (decide (x.2 < k) && e.testBit (x.1 * k + x.2))
def hasCyc (n k e : Nat) : Bool := cycles.any fun c => (c.1 ++ c.2).all (inE n k e)
def allStr (n k N : Nat) : Bool := (List.range N).all fun e => hasCyc n k e || (strTo n k e k).isSome
set_option maxRecDepth 100000 in
theorem str11 : allStr 1 1 2 = true := by decide +kernel
set_option maxRecDepth 100000 in
theorem str12 : allStr 1 2 4 = true := by decide +kernel
set_option maxRecDepth 100000 in
theorem str13 : allStr 1 3 8 = true := by decide +kernel
set_option maxRecDepth 100000 in
theorem str21 : allStr 2 1 4 = true := by decide +kernel
set_option maxRecDepth 100000 in
theorem str22 : allStr 2 2 16 = true := by decide +kernel
set_option maxRecDepth 100000 in
theorem str23 : allStr 2 3 64 = true := by decide +kernel
set_option maxRecDepth 100000 in
theorem str31 : allStr 3 1 8 = true := by decide +kernel
set_option maxRecDepth 100000 in
theorem str32 : allStr 3 2 64 = true := by decide +kernel
set_option maxRecDepth 100000 in
theorem str33 : allStr 3 3 512 = true := by decide +kernel
theorem str_all {n k e : Nat} (hn : 1 ≤ n ∧ n ≤ 3) (hk : 1 ≤ k ∧ k ≤ 3) (he : e < 2 ^ (n * k)) (hc : hasCyc n k e = false) : ∃ don, strTo n k e k = some don := by
  have key : ∀ N, allStr n k N = true → e < N → ∃ don, strTo n k e k = some don := fun N h hN => by
    have h1 := List.all_eq_true.1 h e (List.mem_range.2 hN)
    rw [hc, Bool.false_or] at h1
    exact Option.isSome_iff_exists.1 h1
  have h1 : n = 1 ∨ n = 2 ∨ n = 3 := by omega
  have h2 : k = 1 ∨ k = 2 ∨ k = 3 := by omega
  rcases h1 with rfl | rfl | rfl <;> rcases h2 with rfl | rfl | rfl
  · exact key _ str11 he
  · exact key _ str12 he
  · exact key _ str13 he
  · exact key _ str21 he
  · exact key _ str22 he
  · exact key _ str23 he
  · exact key _ str31 he
  · exact key _ str32 he
  · exact key _ str33 he

/- Sums of fractions, and homogeneous equations with more unknowns than equations. Plain Lean. -/

def sumQ (f : Nat → Rat) : Nat → Rat
  | 0 => 0
  | n + 1 => sumQ f n + f n
theorem sumQ_congr {f g : Nat → Rat} {n : Nat} (h : ∀ i, i < n → f i = g i) : sumQ f n = sumQ g n := by
  induction n with
  | zero => rfl
  | succ n ih => simp only [sumQ]; rw [ih fun i hi => h i (by omega), h n (by omega)]
theorem sumQ_zero {f : Nat → Rat} {n : Nat} (h : ∀ i, i < n → f i = 0) : sumQ f n = 0 := by
  induction n with
  | zero => rfl
  | succ n ih => simp only [sumQ]; rw [ih fun i hi => h i (by omega), h n (by omega)]; grind
theorem sumQ_add (f g : Nat → Rat) (n : Nat) : sumQ (fun i => f i + g i) n = sumQ f n + sumQ g n := by
  induction n with
  | zero => simp only [sumQ]; grind
  | succ n ih => simp only [sumQ]; rw [ih]; grind
theorem sumQ_mul (a : Rat) (f : Nat → Rat) (n : Nat) : sumQ (fun i => a * f i) n = a * sumQ f n := by
  induction n with
  | zero => simp [sumQ]
  | succ n ih => simp only [sumQ]; rw [ih]; grind
theorem sumQ_one {f : Nat → Rat} {n k : Nat} (hk : k < n) (h : ∀ i, i < n → i ≠ k → f i = 0) : sumQ f n = f k := by
  induction n with
  | zero => omega
  | succ n ih =>
    simp only [sumQ]
    by_cases e : k = n
    · subst e
      rw [sumQ_zero fun i hi => h i (by omega) (by omega)]; grind
    · rw [ih (by omega) fun i hi => h i (by omega), h n (by omega) (by omega)]; grind
/-- All numbers but j0. -/
def skip (j0 j : Nat) : Nat := if j < j0 then j else j + 1
theorem sumQ_skip (f : Nat → Rat) (j0 : Nat) : ∀ k, j0 ≤ k → sumQ f (k + 1) = sumQ (fun j => f (skip j0 j)) k + f j0 := by
  intro k
  induction k with
  | zero =>
    intro h
    obtain rfl : j0 = 0 := by omega
    simp [sumQ]
  | succ k ih =>
    intro h
    by_cases e : j0 = k + 1
    · subst e
      rw [sumQ]
      congr 1
      exact sumQ_congr fun i hi => by unfold skip; rw [if_pos hi]
    · have h1 := ih (by omega)
      rw [sumQ, h1, sumQ]
      have h2 : skip j0 k = k + 1 := by unfold skip; rw [if_neg (by omega)]
      simp only [h2]
      grind
theorem null_exists : ∀ (m k : Nat), m < k → ∀ a : Nat → Nat → Rat, ∃ x : Nat → Rat, (∃ j, j < k ∧ x j ≠ 0) ∧ ∀ i, i < m → sumQ (fun j => a i j * x j) k = 0 := by
  intro m
  induction m with
  | zero => intro k hk a; exact ⟨fun j => if j = 0 then 1 else 0, ⟨0, hk, by simp⟩, fun i hi => by omega⟩
  | succ m ih =>
    intro k hk a
    by_cases hz : ∀ j, j < k → a m j = 0
    · obtain ⟨x, hx, hs⟩ := ih k (by omega) a
      refine ⟨x, hx, fun i hi => ?_⟩
      by_cases e : i = m
      · subst e
        exact sumQ_zero fun j hj => by rw [hz j hj]; grind
      · exact hs i (by omega)
    · obtain ⟨j0, hj0, hne⟩ : ∃ j0, j0 < k ∧ a m j0 ≠ 0 := by
        apply Decidable.byContradiction
        intro h
        apply hz
        intro j hj
        apply Decidable.byContradiction
        intro h2
        exact h ⟨j, hj, h2⟩
      obtain ⟨k', rfl⟩ : ∃ k', k = k' + 1 := ⟨k - 1, by omega⟩
      obtain ⟨y, ⟨jy, hjy, hy⟩, hs⟩ := ih k' (by omega) (fun i j => a i (skip j0 j) - a i j0 * (a m (skip j0 j) * (a m j0)⁻¹))
      obtain ⟨S, hS⟩ : ∃ S, S = sumQ (fun j => a m (skip j0 j) * y j) k' := ⟨_, rfl⟩
      refine ⟨fun j => if j = j0 then -(S * (a m j0)⁻¹) else if j < j0 then y j else y (j - 1), ?_, fun i hi => ?_⟩
      · refine ⟨skip j0 jy, by unfold skip; split <;> omega, ?_⟩
        unfold skip
        by_cases h1 : jy < j0
        · simp only [if_pos h1]
          rw [if_neg (by omega)]
          simpa [h1] using hy
        · simp only [if_neg h1]
          rw [if_neg (by omega), if_neg (by omega)]
          exact hy
      · have hsk : ∀ j, (if skip j0 j = j0 then -(S * (a m j0)⁻¹) else if skip j0 j < j0 then y (skip j0 j) else y (skip j0 j - 1)) = y j := by
          intro j
          unfold skip
          by_cases h1 : j < j0
          · simp only [if_pos h1]
            rw [if_neg (by omega)]
          · simp only [if_neg h1]
            rw [if_neg (by omega), if_neg (by omega)]
            rfl
        rw [sumQ_skip _ j0 k' (by omega)]
        simp only [hsk, if_true]
        have hinv : a m j0 * (a m j0)⁻¹ = 1 := Rat.mul_inv_cancel _ hne
        by_cases e : i = m
        · subst e
          rw [← hS]
          grind
        · have h1 := hs i (by omega)
          have h2 : sumQ (fun j => (a i (skip j0 j) - a i j0 * (a m (skip j0 j) * (a m j0)⁻¹)) * y j) k' = sumQ (fun j => a i (skip j0 j) * y j) k' + (-(a i j0 * (a m j0)⁻¹)) * S := by
            rw [hS, ← sumQ_mul, ← sumQ_add]
            exact sumQ_congr fun j _ => by grind
          rw [h2] at h1
          grind

/- Inequalities that nothing fulfils: a sum of them says so. Plain Lean. -/

inductive Der (L : List ((Nat → Rat) × Rat)) : (Nat → Rat) → Rat → Prop
  | mem (p : (Nat → Rat) × Rat) : p ∈ L → Der L p.1 p.2
  | add {a a' : Nat → Rat} {b b' : Rat} : Der L a b → Der L a' b' → Der L (fun j => a j + a' j) (b + b')
  | mul {a : Nat → Rat} {b : Rat} (t : Rat) : 0 ≤ t → Der L a b → Der L (fun j => t * a j) (t * b)
/-- The left side. -/
def lhs (a x : Nat → Rat) (n : Nat) : Rat := sumQ (fun j => a j * x j) n
theorem min_at {β : Type} (f : β → Rat) : ∀ L : List β, L ≠ [] → ∃ a ∈ L, ∀ b ∈ L, f a ≤ f b := by
  intro L
  induction L with
  | nil => intro h; exact absurd rfl h
  | cons a L ih =>
    intro _
    by_cases e : L = []
    · subst e
      exact ⟨a, List.mem_cons_self .., fun b hb => by rw [List.mem_singleton.1 hb]; exact Rat.le_refl⟩
    · obtain ⟨m, hm, hmin⟩ := ih e
      by_cases h : f a ≤ f m
      · refine ⟨a, List.mem_cons_self .., fun b hb => ?_⟩
        rcases List.mem_cons.1 hb with rfl | hb
        · exact Rat.le_refl
        · exact Rat.le_trans h (hmin b hb)
      · refine ⟨m, List.mem_cons_of_mem _ hm, fun b hb => ?_⟩
        rcases List.mem_cons.1 hb with rfl | hb
        · grind
        · exact hmin b hb
theorem fm_le {P Q p2 q2 lp lq ip iq : Rat} (hp : P * ip = 1) (hq : Q * iq = 1) (h1 : 0 ≤ ip) (h2 : 0 ≤ iq) (h : Q * lp + P * lq ≤ Q * p2 + P * q2) : (lq - q2) * iq ≤ (p2 - lp) * ip := by
  have h3 : 0 ≤ ((Q * p2 + P * q2) - (Q * lp + P * lq)) * (ip * iq) := Rat.mul_nonneg (by grind) (Rat.mul_nonneg h1 h2)
  have e : ((Q * p2 + P * q2) - (Q * lp + P * lq)) * (ip * iq) = (p2 - lp) * ip - (lq - q2) * iq := by grind
  rw [e] at h3
  generalize (p2 - lp) * ip = u at h3 ⊢
  generalize (lq - q2) * iq = v at h3 ⊢
  grind
theorem fm_up {P ip t r : Rat} (e1 : P * ip = 1) (h : t * P ≤ r * ip * P) : P * t ≤ r := by
  have e : r * ip * P = r := by grind
  rw [e, Rat.mul_comm] at h
  exact h
theorem fm_down {P ip t r : Rat} (e1 : P * ip = 1) (h : r * ip * P ≤ t * P) : r ≤ P * t := by
  have e : r * ip * P = r := by grind
  rw [e, Rat.mul_comm t] at h
  exact h
/-- Two inequalities without the last unknown. -/
def mix (n : Nat) (p q : (Nat → Rat) × Rat) : (Nat → Rat) × Rat := (fun j => -(q.1 n) * p.1 j + p.1 n * q.1 j, -(q.1 n) * p.2 + p.1 n * q.2)
def less1 (n : Nat) (L : List ((Nat → Rat) × Rat)) : List ((Nat → Rat) × Rat) := L.filter (fun p => decide (p.1 n = 0)) ++ (L.filter fun p => decide (0 < p.1 n)).flatMap fun p => (L.filter fun q => decide (q.1 n < 0)).map (mix n p)
theorem less1_mem {n : Nat} {L : List ((Nat → Rat) × Rat)} {r : (Nat → Rat) × Rat} : r ∈ less1 n L ↔ (r ∈ L ∧ r.1 n = 0) ∨ ∃ p q, p ∈ L ∧ 0 < p.1 n ∧ q ∈ L ∧ q.1 n < 0 ∧ r = mix n p q := by
  unfold less1
  rw [List.mem_append, List.mem_filter, List.mem_flatMap]
  simp only [decide_eq_true_eq, List.mem_filter, List.mem_map]
  constructor
  · rintro (h | ⟨p, ⟨h1, h2⟩, q, ⟨h3, h4⟩, rfl⟩)
    · exact .inl h
    · exact .inr ⟨p, q, h1, h2, h3, h4, rfl⟩
  · rintro (h | ⟨p, q, h1, h2, h3, h4, rfl⟩)
    · exact .inl h
    · exact .inr ⟨p, ⟨h1, h2⟩, q, ⟨h3, h4⟩, rfl⟩
theorem less1_der {n : Nat} {L : List ((Nat → Rat) × Rat)} {a : Nat → Rat} {b : Rat} (h : Der (less1 n L) a b) : Der L a b ∧ a n = 0 := by
  induction h with
  | mem r hr =>
    rcases less1_mem.1 hr with ⟨h1, h2⟩ | ⟨p, q, h1, h2, h3, h4, rfl⟩
    · exact ⟨.mem r h1, h2⟩
    · refine ⟨.add (.mul _ (by grind) (.mem p h1)) (.mul _ (Rat.le_of_lt h2) (.mem q h3)), ?_⟩
      unfold mix
      grind
  | add _ _ ih1 ih2 => exact ⟨.add ih1.1 ih2.1, by dsimp only; rw [ih1.2, ih2.2]; grind⟩
  | mul t ht _ ih => exact ⟨.mul t ht ih.1, by dsimp only; rw [ih.2]; grind⟩
theorem farkas : ∀ (n : Nat) (L : List ((Nat → Rat) × Rat)), (∃ x, ∀ p ∈ L, lhs p.1 x n ≤ p.2) ∨ ∃ a b, Der L a b ∧ (∀ j, j < n → a j = 0) ∧ b < 0 := by
  intro n
  induction n with
  | zero =>
    intro L
    by_cases h : ∀ p ∈ L, 0 ≤ p.2
    · exact .inl ⟨fun _ => 0, fun p hp => h p hp⟩
    · have : ∃ p, p ∈ L ∧ ¬ 0 ≤ p.2 := Classical.byContradiction fun hno => h fun p hp => Classical.byContradiction fun h2 => hno ⟨p, hp, h2⟩
      obtain ⟨p, hp, hn⟩ := this
      exact .inr ⟨_, _, .mem p hp, fun j hj => by omega, by grind⟩
  | succ n ih =>
    intro L
    rcases ih (less1 n L) with ⟨x, hx⟩ | ⟨a, b, h1, h2, h3⟩
    · refine .inl ?_
      have hbd : ∀ p q, p ∈ L → 0 < p.1 n → q ∈ L → q.1 n < 0 → (lhs q.1 x n - q.2) * (-(q.1 n))⁻¹ ≤ (p.2 - lhs p.1 x n) * (p.1 n)⁻¹ := by
        intro p q hp hp0 hq hq0
        have h := hx _ (less1_mem.2 (.inr ⟨p, q, hp, hp0, hq, hq0, rfl⟩))
        have e : lhs (mix n p q).1 x n = -(q.1 n) * lhs p.1 x n + p.1 n * lhs q.1 x n := by
          unfold lhs mix
          rw [← sumQ_mul, ← sumQ_mul, ← sumQ_add]
          exact sumQ_congr fun j _ => by grind
        rw [e] at h
        unfold mix at h
        have hq1 : 0 < -(q.1 n) := by grind
        have i1 := Rat.inv_pos.2 hp0
        have i2 := Rat.inv_pos.2 hq1
        have e1 : p.1 n * (p.1 n)⁻¹ = 1 := Rat.mul_inv_cancel _ (by grind)
        have e2 : -(q.1 n) * (-(q.1 n))⁻¹ = 1 := Rat.mul_inv_cancel _ (by grind)
        exact fm_le e1 e2 (Rat.le_of_lt i1) (Rat.le_of_lt i2) h
      have ht : ∃ t : Rat, (∀ p ∈ L, 0 < p.1 n → t ≤ (p.2 - lhs p.1 x n) * (p.1 n)⁻¹) ∧ ∀ q ∈ L, q.1 n < 0 → (lhs q.1 x n - q.2) * (-(q.1 n))⁻¹ ≤ t := by
        by_cases e : L.filter (fun p => decide (0 < p.1 n)) = []
        · have hnp : ∀ p ∈ L, ¬ 0 < p.1 n := by
            intro p hp h
            have := List.filter_eq_nil_iff.1 e p hp
            simp [h] at this
          by_cases e2 : L = []
          · exact ⟨0, (fun p hp => by rw [e2] at hp; cases hp), fun p hp => by rw [e2] at hp; cases hp⟩
          · obtain ⟨m, hm, hmin⟩ := min_at (fun q : (Nat → Rat) × Rat => -((lhs q.1 x n - q.2) * (-(q.1 n))⁻¹)) L e2
            exact ⟨(lhs m.1 x n - m.2) * (-(m.1 n))⁻¹, fun p hp h => absurd h (hnp p hp), fun q hq _ => by have := hmin q hq; grind⟩
        · obtain ⟨m, hm, hmin⟩ := min_at (fun p : (Nat → Rat) × Rat => (p.2 - lhs p.1 x n) * (p.1 n)⁻¹) _ e
          rw [List.mem_filter, decide_eq_true_eq] at hm
          exact ⟨(m.2 - lhs m.1 x n) * (m.1 n)⁻¹, fun p hp h => hmin p (List.mem_filter.2 ⟨hp, decide_eq_true h⟩), fun q hq h => hbd m q hm.1 hm.2 hq h⟩
      obtain ⟨t, ht1, ht2⟩ := ht
      refine ⟨fun j => if j < n then x j else t, fun p hp => ?_⟩
      have e : lhs p.1 (fun j => if j < n then x j else t) (n + 1) = lhs p.1 x n + p.1 n * t := by
        unfold lhs
        rw [sumQ]
        congr 1
        · exact sumQ_congr fun j hj => by dsimp only; rw [if_pos hj]
        · dsimp only; rw [if_neg (by omega)]
      rw [e]
      by_cases c1 : 0 < p.1 n
      · have h1 := Rat.mul_le_mul_of_nonneg_right (ht1 p hp c1) (Rat.le_of_lt c1)
        have e1 : p.1 n * (p.1 n)⁻¹ = 1 := Rat.mul_inv_cancel _ (by grind)
        have h2 := fm_up e1 h1
        generalize p.1 n * t = u at h2 ⊢
        grind
      · by_cases c2 : p.1 n < 0
        · have h1 := Rat.mul_le_mul_of_nonneg_right (ht2 p hp c2) (show 0 ≤ -(p.1 n) by grind)
          have e2 : -(p.1 n) * (-(p.1 n))⁻¹ = 1 := Rat.mul_inv_cancel _ (by grind)
          have h2 := fm_down e2 h1
          rw [Rat.neg_mul] at h2
          generalize p.1 n * t = u at h2 ⊢
          grind
        · have e0 : p.1 n = 0 := by grind
          have := hx p (less1_mem.2 (.inl ⟨hp, e0⟩))
          rw [e0]
          grind
    · have h4 := less1_der h1
      refine .inr ⟨a, b, h4.1, fun j hj => ?_, h3⟩
      by_cases e : j = n
      · rw [e]; exact h4.2
      · exact h2 j (by omega)

/- Sums over a few, and sums over those that have a property. Plain Lean. -/

theorem sq_swap (g : Nat → Nat → Rat) (n k : Nat) : sumQ (fun i => sumQ (g i) k) n = sumQ (fun j => sumQ (fun i => g i j) n) k := by
  induction n with
  | zero => simp only [sumQ]; rw [sumQ_zero fun _ _ => rfl]
  | succ n ih =>
    simp only [sumQ]
    rw [ih, ← sumQ_add]
theorem sq_mono {f g : Nat → Rat} {n : Nat} (h : ∀ i, i < n → f i ≤ g i) : sumQ f n ≤ sumQ g n := by
  induction n with
  | zero => exact Rat.le_refl
  | succ n ih =>
    simp only [sumQ]
    have h1 := ih fun i hi => h i (by omega)
    have h2 := h n (by omega)
    grind
theorem sq_nn {f : Nat → Rat} {n : Nat} (h : ∀ i, i < n → 0 ≤ f i) : 0 ≤ sumQ f n := by
  have := sq_mono (f := fun _ => 0) (g := f) (n := n) h
  rwa [sumQ_zero fun _ _ => rfl] at this
theorem sq_le {f : Nat → Rat} {n : Nat} (h : ∀ i, i < n → 0 ≤ f i) : ∀ j, j < n → f j ≤ sumQ f n := by
  induction n with
  | zero => intro j hj; omega
  | succ n ih =>
    intro j hj
    simp only [sumQ]
    have h1 := h n (by omega)
    have h2 := sq_nn (f := f) (n := n) fun i hi => h i (by omega)
    rcases Nat.lt_or_ge j n with h3 | h3
    · have := ih (fun i hi => h i (by omega)) j h3
      grind
    · rw [show j = n by omega]
      grind
theorem sq_pos {f : Nat → Rat} {n : Nat} (h : ∀ i, i < n → 0 ≤ f i) {j : Nat} (hj : j < n) (hp : 0 < f j) : 0 < sumQ f n := by
  have := sq_le h j hj
  grind
theorem sq_eq0 {f : Nat → Rat} {n : Nat} (h : ∀ i, i < n → 0 ≤ f i) (h0 : sumQ f n = 0) : ∀ j, j < n → f j = 0 := by
  intro j hj
  have h1 := sq_le h j hj
  have h2 := h j hj
  grind
theorem sq_lt {f g : Nat → Rat} {n : Nat} (h : ∀ i, i < n → f i ≤ g i) {j : Nat} (hj : j < n) (hl : f j < g j) : sumQ f n < sumQ g n := by
  have h1 := sq_pos (f := fun i => g i + -1 * f i) (n := n) (fun i hi => by have := h i hi; grind) hj (by grind)
  rw [sumQ_add g (fun i => -1 * f i), sumQ_mul] at h1
  grind
theorem sq_sub (f g : Nat → Rat) (n : Nat) : sumQ (fun i => f i - g i) n = sumQ f n - sumQ g n := by
  have := sumQ_add f (fun i => -1 * g i) n
  rw [sumQ_mul] at this
  have e : sumQ (fun i => f i - g i) n = sumQ (fun i => f i + -1 * g i) n := sumQ_congr fun i _ => by grind
  rw [e, this]
  grind
theorem sq_mulr (a : Rat) (f : Nat → Rat) (n : Nat) : sumQ (fun i => f i * a) n = sumQ f n * a := by
  have e : sumQ (fun i => f i * a) n = sumQ (fun i => a * f i) n := sumQ_congr fun i _ => by grind
  rw [e, sumQ_mul]
  grind
/-- 1 where P, else 0. -/
noncomputable def one (P : Prop) : Rat := by classical exact if P then 1 else 0
theorem one_t {P : Prop} (h : P) : one P = 1 := by unfold one; rw [if_pos h]
theorem one_f {P : Prop} (h : ¬ P) : one P = 0 := by unfold one; rw [if_neg h]
theorem one_nn (P : Prop) : 0 ≤ one P := by
  by_cases h : P
  · rw [one_t h]; decide
  · rw [one_f h]; exact Rat.le_refl
theorem one_le (P : Prop) : one P ≤ 1 := by
  by_cases h : P
  · rw [one_t h]; exact Rat.le_refl
  · rw [one_f h]; decide
theorem one_mul {P : Prop} {a b : Rat} (h : P → a = b) : one P * a = one P * b := by
  by_cases hp : P
  · rw [h hp]
  · rw [one_f hp]; grind
theorem one_mul0 {P : Prop} {a : Rat} (h : P → a = 0) : one P * a = 0 := by
  by_cases hp : P
  · rw [h hp]; grind
  · rw [one_f hp]; grind
theorem one_mul1 {P : Prop} {a : Rat} (h : ¬ P → a = 0) : one P * a = a := by
  by_cases hp : P
  · rw [one_t hp]; grind
  · rw [h hp]; grind
theorem one_mul_le {P : Prop} {a b : Rat} (h : P → a ≤ b) : one P * a ≤ one P * b := by
  by_cases hp : P
  · rw [one_t hp]; have := h hp; grind
  · rw [one_f hp]; grind
/-- The greatest of a few. -/
theorem max_at (f : Nat → Rat) : ∀ n, 0 < n → ∃ j, j < n ∧ ∀ i, i < n → f i ≤ f j := by
  intro n
  induction n with
  | zero => intro h; omega
  | succ n ih =>
    intro _
    rcases Nat.eq_zero_or_pos n with h0 | h0
    · subst h0
      exact ⟨0, by omega, fun i hi => by rw [show i = 0 by omega]; exact Rat.le_refl⟩
    · obtain ⟨j, hj, hm⟩ := ih h0
      by_cases h : f n ≤ f j
      · refine ⟨j, by omega, fun i hi => ?_⟩
        rcases Nat.lt_or_ge i n with h3 | h3
        · exact hm i h3
        · rw [show i = n by omega]; exact h
      · refine ⟨n, by omega, fun i hi => ?_⟩
        rcases Nat.lt_or_ge i n with h3 | h3
        · have := hm i h3
          grind
        · rw [show i = n by omega]; exact Rat.le_refl

/- A balance of prices and spendings; greater budgets make no price fall, so the prices are the only ones. Plain Lean. -/

structure Equi (n k : Nat) (b : Nat → Rat) (u : Nat → Nat → Rat) (p : Nat → Rat) (s : Nat → Nat → Rat) : Prop where
  pos : ∀ g, g < k → 0 < p g
  nn : ∀ i g, i < n → g < k → 0 ≤ s i g
  row : ∀ i, i < n → sumQ (s i) k = b i
  col : ∀ g, g < k → sumQ (fun i => s i g) n = p g
  want : ∀ i g, i < n → g < k → s i g ≠ 0 → ∀ h, h < k → u i h * p g ≤ u i g * p h
section
variable {n k : Nat} {b b' : Nat → Rat} {u : Nat → Nat → Rat} {p p' : Nat → Rat} {s s' : Nat → Nat → Rat}
/-- Where something is spent, there is use. -/
theorem Equi.use (h : Equi n k b u p s) (hu0 : ∀ i, i < n → ∃ g, g < k ∧ 0 < u i g) {i g : Nat} (hi : i < n) (hg : g < k) (hs : s i g ≠ 0) : 0 < u i g := by
  obtain ⟨g0, hg0, h0⟩ := hu0 i hi
  have h1 := h.want i g hi hg hs g0 hg0
  have h2 := Rat.mul_pos h0 (h.pos g hg)
  have h3 := h.pos g0 hg0
  by_cases h4 : 0 < u i g
  · exact h4
  · exfalso
    have h5 : u i g * p g0 ≤ 0 := by
      have := Rat.mul_nonneg (a := -(u i g)) (b := p g0) (by grind) (by grind)
      grind
    grind
theorem Equi.mono (h : Equi n k b u p s) (h' : Equi n k b' u p' s') (_ : ∀ i g, i < n → g < k → 0 ≤ u i g) (hu0 : ∀ i, i < n → ∃ g, g < k ∧ 0 < u i g) (hb : ∀ i, i < n → b i ≤ b' i) :
    ∀ g, g < k → p g ≤ p' g := by
  intro g0 hg0
  by_cases hle : p g0 ≤ p' g0
  · exact hle
  exfalso
  obtain ⟨m, hm, hmax⟩ := max_at (fun g => p g / p' g) k (by omega)
  obtain ⟨r, hr⟩ : ∃ r, r = p m / p' m := ⟨_, rfl⟩
  have hq := fun g hg => h'.pos g hg
  have hup : ∀ g, g < k → p g ≤ r * p' g := fun g hg => by
    have h1 := hmax g hg
    rw [← hr] at h1
    have h2 := Rat.mul_le_mul_of_nonneg_right h1 (Rat.le_of_lt (hq g hg))
    have h3 : p g / p' g * p' g = p g := by have := hq g hg; grind
    rwa [h3] at h2
  have hat : p m = r * p' m := by have := hq m hm; rw [hr]; grind
  have hr1 : 1 < r := by
    by_cases h1 : 1 < r
    · exact h1
    · have h2 := hup g0 hg0
      have h3 := Rat.mul_le_mul_of_nonneg_right (a := r) (b := 1) (c := p' g0) (by grind) (Rat.le_of_lt (hq g0 hg0))
      grind
  -- the goods whose price falls most
  have key : ∀ i, i < n → sumQ (fun g => one (p g = r * p' g) * s i g) k ≤ sumQ (fun g => one (p g = r * p' g) * s' i g) k := by
    intro i hi
    by_cases hex : ∃ g, g < k ∧ p g = r * p' g ∧ s i g ≠ 0
    · obtain ⟨g, hg, he, hs⟩ := hex
      have hug := h.use hu0 hi hg hs
      have hall : ∀ x, x < k → p x ≠ r * p' x → s' i x = 0 := by
        intro x hx hne
        by_cases h0 : s' i x = 0
        · exact h0
        exfalso
        have w1 := h.want i g hi hg hs x hx
        have w2 := h'.want i x hi hx h0 g hg
        have hlt : p x < r * p' x := by have := hup x hx; grind
        have h1 : u i g * p x < u i g * (r * p' x) := by
          have := Rat.mul_pos hug (show 0 < r * p' x - p x by grind)
          grind
        have h2 := Rat.mul_le_mul_of_nonneg_left (c := r) w2 (by grind)
        rw [he] at w1
        grind
      have e : sumQ (fun g => one (p g = r * p' g) * s' i g) k = b' i := by
        rw [← h'.row i hi]
        exact sumQ_congr fun x hx => one_mul1 (hall x hx)
      rw [e]
      have h1 := hb i hi
      have h2 : sumQ (fun g => one (p g = r * p' g) * s i g) k ≤ sumQ (s i) k := sq_mono fun x hx => by
        have := h.nn i x hi hx
        have h3 := one_le (p x = r * p' x)
        have := Rat.mul_le_mul_of_nonneg_right h3 this
        grind
      rw [h.row i hi] at h2
      grind
    · have e : sumQ (fun g => one (p g = r * p' g) * s i g) k = 0 := sumQ_zero fun x hx => one_mul0 fun he => by
        by_cases h0 : s i x = 0
        · exact h0
        · exact absurd ⟨x, hx, he, h0⟩ hex
      rw [e]
      exact sq_nn fun x hx => Rat.mul_nonneg (one_nn _) (h'.nn i x hi hx)
  have htot := sq_mono key
  rw [sq_swap (fun i g => one (p g = r * p' g) * s i g), sq_swap (fun i g => one (p g = r * p' g) * s' i g)] at htot
  have e1 : sumQ (fun j => sumQ (fun i => one (p j = r * p' j) * s i j) n) k = sumQ (fun j => one (p j = r * p' j) * p j) k := sumQ_congr fun g hg => by rw [sumQ_mul, h.col g hg]
  have e2 : sumQ (fun j => sumQ (fun i => one (p j = r * p' j) * s' i j) n) k = sumQ (fun j => one (p j = r * p' j) * p' j) k := sumQ_congr fun g hg => by rw [sumQ_mul, h'.col g hg]
  rw [e1, e2] at htot
  have h3 : sumQ (fun j => one (p j = r * p' j) * p' j) k < sumQ (fun j => one (p j = r * p' j) * p j) k := by
    refine sq_lt (fun g hg => one_mul_le fun he => ?_) hm ?_
    · rw [he]
      have := Rat.mul_le_mul_of_nonneg_right (Rat.le_of_lt hr1) (Rat.le_of_lt (hq g hg))
      grind
    · rw [one_t hat, hat]
      have := Rat.mul_pos (show 0 < r - 1 by grind) (hq m hm)
      grind
  grind
/-- The prices in balance are the only ones. -/
theorem Equi.unique (h : Equi n k b u p s) (h' : Equi n k b u p' s') (hu : ∀ i g, i < n → g < k → 0 ≤ u i g) (hu0 : ∀ i, i < n → ∃ g, g < k ∧ 0 < u i g) : ∀ g, g < k → p g = p' g := fun g hg => by
  have h1 := h.mono h' hu hu0 (fun _ _ => Rat.le_refl) g hg
  have h2 := h'.mono h hu hu0 (fun _ _ => Rat.le_refl) g hg
  grind
end

/- What balanced says, in plain words. -/

theorem sumF_Q (f : Nat → Rat) (n : Nat) : sumF f n = sumQ f n := by
  induction n with
  | zero => rfl
  | succ n ih => simp only [sumF, sumQ, ih]
def budQ (B : List Int) (i : Nat) : Rat := ((B.getD i 0 : Int) : Rat)
def useQ (V : List (List Int)) (i g : Nat) : Rat := ((useN V i g : Int) : Rat)
def priQ (P : List Rat) (g : Nat) : Rat := P.getD g 0
theorem div_le_div {a b p q : Rat} (hp : 0 < p) (hq : 0 < q) : a / p ≤ b / q ↔ a * q ≤ b * p := by
  have hpq := Rat.mul_pos hp hq
  constructor
  · intro h
    have h1 := Rat.mul_le_mul_of_nonneg_right h (Rat.le_of_lt hpq)
    have e1 : a / p * (p * q) = a * q := by grind
    have e2 : b / q * (p * q) = b * p := by grind
    rwa [e1, e2] at h1
  · intro h
    by_cases h2 : a / p ≤ b / q
    · exact h2
    · exfalso
      have h3 := Rat.mul_pos (show 0 < a / p - b / q by grind) hpq
      have e1 : a / p * (p * q) = a * q := by grind
      have e2 : b / q * (p * q) = b * p := by grind
      grind
section
variable {B : List Int} {V : List (List Int)} {P : List Rat} {S : List (List Rat)} {n k : Nat}
theorem want_iff (hp : P.length = k) (hpos : ∀ q ∈ P, 0 < q) {i g : Nat} (hr : (rowV V i).length = k) (hu : ∀ g, 0 ≤ useN V i g) (hg : g < k) :
    (wantS (rowV V i) P).testBit g = true ↔ ∀ h, h < k → useQ V i h * priQ P g ≤ useQ V i g * priQ P h := by
  have hP : ∀ g, g < k → 0 < priQ P g := fun g hg => by
    unfold priQ
    rw [List.getD_eq_getElem?_getD, List.getElem?_eq_getElem (by omega)]
    exact hpos _ (List.getElem_mem _)
  have h0 : ∀ g, 0 ≤ useP (rowV V i) P g := fun g => by
    unfold useP
    by_cases hg : g < k
    · rw [Rat.div_def]
      refine Rat.mul_nonneg ?_ (Rat.le_of_lt (Rat.inv_pos.2 (hP g hg)))
      have := hu g
      unfold useN at this
      exact_mod_cast this
    · have : P.getD g 0 = 0 := by rw [List.getD_eq_getElem?_getD, List.getElem?_eq_none (by omega)]; rfl
      rw [this, Rat.div_def, Rat.inv_zero, Rat.mul_zero]
      exact Rat.le_refl
  unfold wantS
  rw [hr, want_bit h0 hg]
  constructor
  · intro h x hx
    exact (div_le_div (hP x hx) (hP g hg)).1 (h x hx)
  · intro h x hx
    exact (div_le_div (hP x hx) (hP g hg)).2 (h x hx)
theorem bal_equi (hB : B.length = n) (hp : P.length = k) (hpos : ∀ q ∈ P, 0 < q) (hr : ∀ i, i < n → (rowV V i).length = k) (hu : ∀ i g, 0 ≤ useN V i g) :
    balB B V P S = true ↔ Equi n k (budQ B) (useQ V) (priQ P) (spd S) := by
  have hP : ∀ g, g < k → 0 < priQ P g := fun g hg => by
    unfold priQ
    rw [List.getD_eq_getElem?_getD, List.getElem?_eq_getElem (by omega)]
    exact hpos _ (List.getElem_mem _)
  unfold balB
  rw [Bool.and_eq_true, decide_eq_true_eq, List.all_eq_true, hB, hp]
  have hcol : (List.range k).map (fun g => sumF (fun i => spd S i g) n) = P ↔ ∀ g, g < k → sumQ (fun i => spd S i g) n = priQ P g := by
    constructor
    · intro h g hg
      have h1 : ((List.range k).map (fun g => sumF (fun i => spd S i g) n)).getD g 0 = sumF (fun i => spd S i g) n := by
        rw [List.getD_eq_getElem?_getD, List.getElem?_map, List.getElem?_range hg]; rfl
      rw [h] at h1
      rw [← sumF_Q]
      exact h1.symm
    · intro h
      apply List.ext_getElem?
      intro g
      by_cases hg : g < k
      · rw [List.getElem?_map, List.getElem?_range hg, List.getElem?_eq_getElem (by omega)]
        have := h g hg
        unfold priQ at this
        rw [List.getD_eq_getElem?_getD, List.getElem?_eq_getElem (by omega)] at this
        simp only [Option.map_some, sumF_Q]
        rw [this]; rfl
      · rw [List.getElem?_eq_none (by simpa using hg), List.getElem?_eq_none (by omega)]
  rw [hcol]
  have hline : ∀ i, i < n → (lineOk B V P S i = true ↔ (∀ g, g < k → 0 ≤ spd S i g) ∧ sumQ (spd S i) k = budQ B i ∧ ∀ g, g < k → spd S i g ≠ 0 → ∀ h, h < k → useQ V i h * priQ P g ≤ useQ V i g * priQ P h) := by
    intro i hi
    unfold lineOk cellOk
    rw [Bool.and_eq_true, decide_eq_true_eq, List.all_eq_true, hp, sumF_Q]
    simp only [List.mem_range, Bool.and_eq_true, Bool.or_eq_true, decide_eq_true_eq]
    constructor
    · rintro ⟨h1, h2⟩
      refine ⟨fun g hg => (h1 g hg).1, h2, fun g hg hs => ?_⟩
      rcases (h1 g hg).2 with h3 | h3
      · exact absurd h3 hs
      · exact (want_iff hp hpos (hr i hi) (hu i) hg).1 h3
    · rintro ⟨h1, h2, h3⟩
      refine ⟨fun g hg => ⟨h1 g hg, ?_⟩, h2⟩
      by_cases hs : spd S i g = 0
      · exact .inl hs
      · exact .inr ((want_iff hp hpos (hr i hi) (hu i) hg).2 (h3 g hg hs))
  constructor
  · rintro ⟨h1, h2⟩
    exact {
      pos := hP
      nn := fun i g hi hg => ((hline i hi).1 (h1 i (List.mem_range.2 hi))).1 g hg
      row := fun i hi => ((hline i hi).1 (h1 i (List.mem_range.2 hi))).2.1
      col := h2
      want := fun i g hi hg hs => ((hline i hi).1 (h1 i (List.mem_range.2 hi))).2.2 g hg hs }
  · intro h
    refine ⟨fun i hi => ?_, h.col⟩
    have hi := List.mem_range.1 hi
    exact (hline i hi).2 ⟨fun g hg => h.nn i g hi hg, h.row i hi, fun g hg hs => h.want i g hi hg hs⟩
end
/-- A valid market, in plain words. -/
structure MkOk (n k : Nat) (b : Nat → Rat) (u : Nat → Nat → Rat) : Prop where
  un : ∀ i g, i < n → g < k → 0 ≤ u i g
  us : ∀ i, i < n → ∃ g, g < k ∧ 0 < u i g
  ug : ∀ g, g < k → ∃ i, i < n ∧ 0 < u i g
  bp : ∀ i, i < n → 0 < b i
theorem mkOk_of {B : List Int} {V : List (List Int)} (h : validM B V = true) : MkOk B.length (goodsN V) (budQ B) (useQ V) ∧ (∀ i, i < B.length → (rowV V i).length = goodsN V) ∧ ∀ i g, 0 ≤ useN V i g ∧ useN V i g ≤ 20 := by
  obtain ⟨⟨a1, a2, a3, a4⟩, b1, b2, b3⟩ := validM_iff.1 h
  have hu : ∀ i g, 0 ≤ useN V i g ∧ useN V i g ≤ 20 := useN_bd b2
  have hrow : ∀ i, i < B.length → rowV V i ∈ V := fun i hi => List.mem_of_getElem? (rowV_some (by omega))
  refine ⟨⟨fun i g _ _ => ?_, fun i hi => ?_, fun g hg => ?_, fun i hi => ?_⟩, fun i hi => (rowOk_iff.1 (b2 _ (hrow i hi))).1, hu⟩
  · unfold useQ
    exact_mod_cast (hu i g).1
  · obtain ⟨e, _, x, hx, h0⟩ := rowOk_iff.1 (b2 _ (hrow i hi))
    obtain ⟨g, hg⟩ := List.getElem?_of_mem hx
    have hgl := (List.getElem?_eq_some_iff.1 hg).1
    refine ⟨g, by omega, ?_⟩
    unfold useQ useN
    rw [List.getD_eq_getElem?_getD, hg]
    exact_mod_cast h0
  · have h1 := b3 g hg
    unfold wanted at h1
    rw [List.any_eq_true] at h1
    obtain ⟨r, hr, h0⟩ := h1
    rw [decide_eq_true_eq] at h0
    obtain ⟨i, hi⟩ := List.getElem?_of_mem hr
    have hil := (List.getElem?_eq_some_iff.1 hi).1
    refine ⟨i, by omega, ?_⟩
    unfold useQ useN
    rw [rowV_get hi]
    exact_mod_cast h0
  · have hb := a3 (B.getD i 0) (by
      rw [List.getD_eq_getElem?_getD, List.getElem?_eq_getElem hi]
      exact List.getElem_mem _)
    unfold budQ
    exact_mod_cast (show 0 < B.getD i 0 by omega)
theorem SolR.equi {B : List Int} {V : List (List Int)} {r : List Rat × List (List Rat)} (hv : validM B V = true) (h : SolR B V B.length (goodsN V) r) : Equi B.length (goodsN V) (budQ B) (useQ V) (priQ r.1) (spd r.2) := by
  obtain ⟨_, h2, h3⟩ := mkOk_of hv
  exact (bal_equi rfl h.lp (fun q hq => (h.ps q hq).ok.pos) h2 (fun i g => (h3 i g).1)).1 h.bal

/- The search from a good finds a tree: plain Lean. -/

/-- The pair of two neighbours: buyer and good. -/
def eB (x z : Nd) : Nat := if x.1 then z.2 else x.2
def eG (x z : Nd) : Nat := if x.1 then x.2 else z.2
theorem eB_next (x : Nd) (y : Nat) : eB x (nextOf x y) = buyerOf x y := rfl
theorem eG_next (x : Nd) (y : Nat) : eG x (nextOf x y) = goodOf x y := by
  unfold eG nextOf goodOf
  rfl
theorem eB_symm {x z : Nd} (h : z.1 = !x.1) : eB x z = eB z x := by
  unfold eB; rw [h]; cases x.1 <;> rfl
theorem eG_symm {x z : Nd} (h : z.1 = !x.1) : eG x z = eG z x := by
  unfold eG; rw [h]; cases x.1 <;> rfl
def edN (e k : Nat) (x z : Nd) : Prop := e.testBit (eB x z * k + eG x z) = true
/-- What is true of a search for edges that are of use, whose prices are in proportion. -/
structure TInv (V : List (List Int)) (e n k first : Nat) (don : Nd → Bool) (p : Nat → Rat) (st : CSt) : Prop where
  new : ∀ x ∈ st.ord, don x = false
  pe : ∀ (j : Nat) (x : Nd), st.ord[j]? = some x → 0 < j → edN e k x (st.par x)
  pq : ∀ g, (true, g) ∈ st.ord → st.pq g = p g / p first
/-- The first j nodes have been looked at whole, the next one up to y. -/
def Seen (e n k first : Nat) (st : CSt) (j : Nat) (x : Nd) (y : Nat) : Prop := buyerOf x y < n → goodOf x y < k → edN e k x (nextOf x y) → (0 < j ∧ nextOf x y = st.par x) ∨ (nextOf x y ∈ st.ord ∧ nextOf x y ≠ (true, first) ∧ st.par (nextOf x y) = x)
section
variable {V : List (List Int)} {e n k first : Nat} {don : Nd → Bool} {pq0 p : Nat → Rat}
theorem TInv.start (hd : don (true, first) = false) (hp : p first ≠ 0) : TInv V e n k first don p (start0 don pq0 first) where
  new := by
    intro x hx
    have : x = (true, first) := by simpa [start0] using hx
    rw [this]; exact hd
  pe := by
    intro j x hx hj
    simp only [start0] at hx
    rw [List.getElem?_eq_none (by simp; omega)] at hx
    cases hx
  pq := by
    intro g hg
    have : g = first := by simpa [start0] using hg
    subst this
    show upd pq0 g 1 g = _
    rw [upd_same]
    grind
/-- A step keeps the ones that are there. -/
theorem stepC_par {st : CSt} {x z : Nd} {y : Nat} (h : z ≠ nextOf x y) : (stepC V st x y).par z = st.par z := upd_other _ _ _ h
theorem TInv.step (hG : goodsN V = k) (_ : ∀ g, g < k → 0 < p g) (hu : ∀ i g, i < n → g < k → e.testBit (i * k + g) = true → 0 < useN V i g) (hpr : ∀ i g h, i < n → g < k → h < k → e.testBit (i * k + g) = true → e.testBit (i * k + h) = true → useQ V i h * p g = useQ V i g * p h)
    {st : CSt} (hs : SInv V n first don pq0 st) (h : TInv V e n k first don p st) {j : Nat} {x : Nd} {y : Nat} (hx : st.ord[j]? = some x) (hb : buyerOf x y < n) (hg : goodOf x y < k) (hbit : edN e k x (nextOf x y)) (hd : st.don (nextOf x y) = false) :
    TInv V e n k first don p (stepC V st x y) := by
  have hnew : nextOf x y ∉ st.ord := fun hm => by
    have := (hs.dn (nextOf x y)).2 (.inr hm)
    rw [this] at hd; cases hd
  have hxm : x ∈ st.ord := List.mem_of_getElem? hx
  have hjl : j < st.ord.length := (List.getElem?_eq_some_iff.1 hx).1
  constructor
  · intro z hz
    rcases List.mem_append.1 (show z ∈ st.ord ++ [nextOf x y] from hz) with hz | hz
    · exact h.new z hz
    · rw [List.mem_singleton] at hz
      subst hz
      cases hdz : don (nextOf x y) with
      | false => rfl
      | true => rw [(hs.dn _).2 (.inl hdz)] at hd; cases hd
  · intro i z hz hi
    have hz' : (st.ord ++ [nextOf x y])[i]? = some z := hz
    rcases Nat.lt_or_ge i st.ord.length with hil | hil
    · rw [List.getElem?_append_left hil] at hz'
      have hzm := List.mem_of_getElem? hz'
      rw [stepC_par (fun e => hnew (e ▸ hzm))]
      exact h.pe i z hz' hi
    · rw [List.getElem?_append_right hil] at hz'
      have h0 : i - st.ord.length = 0 := by
        rcases Nat.eq_zero_or_pos (i - st.ord.length) with h1 | h1
        · exact h1
        · rw [List.getElem?_eq_none (by simp; omega)] at hz'; cases hz'
      rw [h0] at hz'
      simp at hz'
      subst hz'
      have e1 : (stepC V st x y).par (nextOf x y) = x := upd_same _ _ _
      rw [e1]
      unfold edN at hbit ⊢
      have hn : x.1 = !(nextOf x y).1 := by simp [nextOf]
      rw [eB_symm hn, eG_symm hn]
      exact hbit
  · intro g hgm
    have hgm' : (true, g) ∈ st.ord ++ [nextOf x y] := hgm
    show (if x.1 then st.pq else upd st.pq y (relP V st x y)) g = _
    obtain ⟨c, i⟩ := x
    cases c with
    | true =>
      simp only [if_true]
      refine h.pq g ?_
      rcases List.mem_append.1 hgm' with h1 | h1
      · exact h1
      · rw [List.mem_singleton] at h1
        have := congrArg Prod.fst h1
        simp [nextOf] at this
    | false =>
      simp only [Bool.false_eq_true, if_false]
      by_cases hgy : g = y
      · subst hgy
        rw [upd_same]
        have hj : 0 < j := by
          rcases Nat.eq_zero_or_pos j with h' | h'
          · subst h'; rw [hs.inv.hd] at hx; cases hx
          · exact h'
        obtain ⟨⟨j2, hj2, hj3⟩, hp1, hp2⟩ := hs.inv.par j (false, i) hx hj
        simp only [Bool.not_false] at hp1
        have hpm := List.mem_of_getElem? hj3
        rw [show st.par (false, i) = (true, (st.par (false, i)).2) from Prod.ext hp1 rfl] at hpm
        have hpr2 := hs.inv.rng _ hpm
        simp only [if_true] at hpr2
        rw [hG] at hpr2
        have hbi : i < n := hb
        have hgk : g < k := hg
        have b1 : e.testBit (i * k + g) = true := hbit
        have b2 : e.testBit (i * k + (st.par (false, i)).2) = true := h.pe j (false, i) hx hj
        have hm := h.pq _ hpm
        unfold relP
        rw [hm]
        have hpp := hpr i (st.par (false, i)).2 g hbi hpr2 hgk b2 b1
        have hu1 := hu i (st.par (false, i)).2 hbi hpr2 b2
        have hu2 : useQ V i (st.par (false, i)).2 ≠ 0 := rat_ne (by omega)
        show p (st.par (false, i)).2 / p first * (useQ V i g / useQ V i (st.par (false, i)).2) = p g / p first
        generalize useQ V i (st.par (false, i)).2 = u2 at *
        generalize useQ V i g = u1 at *
        generalize p (st.par (false, i)).2 = p2 at *
        generalize p g = p1 at *
        generalize p first = p0 at *
        have e1 : p1 = u1 * p2 / u2 := by grind
        rw [e1]
        grind
      · rw [upd_other _ _ _ hgy]
        refine h.pq g ?_
        rcases List.mem_append.1 hgm' with h1 | h1
        · exact h1
        · rw [List.mem_singleton] at h1
          have := congrArg Prod.snd h1
          exact absurd this hgy
theorem Seen.step {st : CSt} (hs : SInv V n first don pq0 st) {j' : Nat} {x x' : Nd} {y y' : Nat} (hd : st.don (nextOf x y) = false) (hx' : x' ∈ st.ord) (h : Seen e n k first st j' x' y') : Seen e n k first (stepC V st x y) j' x' y' := by
  have hnew : nextOf x y ∉ st.ord := fun hm => by
    have := (hs.dn (nextOf x y)).2 (.inr hm)
    rw [this] at hd; cases hd
  intro h1 h2 h3
  rcases h h1 h2 h3 with ⟨a, c⟩ | ⟨a, a2, c⟩
  · left
    rw [stepC_par (fun e => hnew (e ▸ hx'))]
    exact ⟨a, c⟩
  · right
    refine ⟨List.mem_append_left _ a, a2, ?_⟩
    rw [stepC_par (fun e => hnew (e ▸ a))]
    exact c
end
/-- All that is true while the search runs: j nodes whole, y of the next. -/
structure TAll (V : List (List Int)) (e n k first M : Nat) (don : Nd → Bool) (pq0 p : Nat → Rat) (st : CSt) (j : Nat) (x : Nd) (y : Nat) : Prop where
  s : SInv V n first don pq0 st
  t : TInv V e n k first don p st
  old : ∀ (i : Nat) (z : Nd), i < j → st.ord[i]? = some z → ∀ y', y' < M → Seen e n k first st i z y'
  cur : ∀ y', y' < y → Seen e n k first st j x y'
section
variable {V : List (List Int)} {e n k first M : Nat} {don : Nd → Bool} {pq0 p : Nat → Rat}
theorem TAll.visit (hub : ∀ i g, 0 ≤ useN V i g ∧ useN V i g ≤ 20) (hG : goodsN V = k) (hp : ∀ g, g < k → 0 < p g) (hu : ∀ i g, i < n → g < k → e.testBit (i * k + g) = true → 0 < useN V i g)
    (hpr : ∀ i g h, i < n → g < k → h < k → e.testBit (i * k + g) = true → e.testBit (i * k + h) = true → useQ V i h * p g = useQ V i g * p h)
    {st st' : CSt} {j : Nat} {x : Nd} {y : Nat} (h : TAll V e n k first M don pq0 p st j x y) (hx : st.ord[j]? = some x) (hv : visit V e n j st x y = some st') : TAll V e n k first M don pq0 p st' j x (y + 1) ∧ st'.ord[j]? = some x := by
  have hsv := h.s.visit hub hx hv
  unfold Go.Proofs.Ytnljnjnmhbkdoaa.visit at hv
  by_cases hs : skipB V e n j st x y = true
  · rw [if_pos hs] at hv
    injection hv with hv
    subst hv
    refine ⟨{ h with cur := fun y' hy' => ?_ }, hx⟩
    rcases Nat.lt_or_ge y' y with h1 | h1
    · exact h.cur y' h1
    · have e1 : y' = y := by omega
      subst e1
      intro h2 h3 h4
      simp only [skipB, Bool.or_eq_true, decide_eq_true_eq, Bool.and_eq_true, Bool.not_eq_true'] at hs
      rw [hG] at hs
      rcases hs with a | a | a | ⟨a, c⟩
      · omega
      · omega
      · unfold edN at h4
        rw [eB_next, eG_next] at h4
        rw [a] at h4; cases h4
      · exact .inl ⟨c, a⟩
  · rw [if_neg hs] at hv
    by_cases hc : (st.don (nextOf x y) || decide (useN V (buyerOf x y) (goodOf x y) = 0)) = true
    · rw [if_pos hc] at hv; cases hv
    · rw [if_neg hc] at hv
      injection hv with hv
      subst hv
      simp only [skipB, Bool.or_eq_true, decide_eq_true_eq, not_or, Bool.not_eq_true', Bool.not_eq_false] at hs
      simp only [Bool.or_eq_true, decide_eq_true_eq, not_or, Bool.not_eq_true] at hc
      rw [hG] at hs
      obtain ⟨s1, s2, s3, _⟩ := hs
      have hbit : edN e k x (nextOf x y) := by
        unfold edN
        rw [eB_next, eG_next]
        exact s3
      have hxm : x ∈ st.ord := List.mem_of_getElem? hx
      have hjl : j < st.ord.length := (List.getElem?_eq_some_iff.1 hx).1
      refine ⟨{ s := hsv.1, t := h.t.step hG hp hu hpr h.s hx (by omega) (by omega) hbit hc.1, old := fun i z hi hz y' hy' => ?_, cur := fun y' hy' => ?_ }, hsv.2⟩
      · have hz' : (st.ord ++ [nextOf x y])[i]? = some z := hz
        rw [List.getElem?_append_left (by omega)] at hz'
        exact (h.old i z hi hz' y' hy').step h.s hc.1 (List.mem_of_getElem? hz')
      · rcases Nat.lt_or_ge y' y with h1 | h1
        · exact (h.cur y' h1).step h.s hc.1 hxm
        · have e1 : y' = y := by omega
          subst e1
          intro _ _ _
          right
          refine ⟨List.mem_append_right _ (by simp), fun he => ?_, upd_same _ _ _⟩
          have h7 := (h.s.dn (nextOf x y')).2 (.inr (by rw [he]; exact List.mem_of_getElem? h.s.inv.hd))
          rw [hc.1] at h7
          cases h7
theorem TAll.visitTo (hub : ∀ i g, 0 ≤ useN V i g ∧ useN V i g ≤ 20) (hG : goodsN V = k) (hp : ∀ g, g < k → 0 < p g) (hu : ∀ i g, i < n → g < k → e.testBit (i * k + g) = true → 0 < useN V i g)
    (hpr : ∀ i g h, i < n → g < k → h < k → e.testBit (i * k + g) = true → e.testBit (i * k + h) = true → useQ V i h * p g = useQ V i g * p h)
    {st : CSt} {j : Nat} {x : Nd} (h : TAll V e n k first M don pq0 p st j x 0) (hx : st.ord[j]? = some x) :
    ∀ (y : Nat) (st' : CSt), visitTo V e n j st x y = some st' → TAll V e n k first M don pq0 p st' j x y ∧ st'.ord[j]? = some x
  | 0, st', hv => by injection hv with hv; subst hv; exact ⟨h, hx⟩
  | y + 1, st', hv => by
    simp only [Go.Proofs.Ytnljnjnmhbkdoaa.visitTo] at hv
    cases h1 : Go.Proofs.Ytnljnjnmhbkdoaa.visitTo V e n j st x y with
    | none => rw [h1] at hv; cases hv
    | some s =>
      rw [h1] at hv
      obtain ⟨h2, h3⟩ := TAll.visitTo hub hG hp hu hpr h hx y s h1
      exact h2.visit hub hG hp hu hpr h3 hv
theorem TAll.srch (hub : ∀ i g, 0 ≤ useN V i g ∧ useN V i g ≤ 20) (hG : goodsN V = k) (hp : ∀ g, g < k → 0 < p g) (hu : ∀ i g, i < n → g < k → e.testBit (i * k + g) = true → 0 < useN V i g)
    (hpr : ∀ i g h, i < n → g < k → h < k → e.testBit (i * k + g) = true → e.testBit (i * k + h) = true → useQ V i h * p g = useQ V i g * p h)
    {st : CSt} (h : TAll V e n k first M don pq0 p st 0 (true, first) 0) :
    ∀ (j : Nat) (st' : CSt), srchTo V e n M st j = some st' → ∀ x, TAll V e n k first M don pq0 p st' j x 0
  | 0, st', hv, x => by injection hv with hv; subst hv; exact { h with cur := fun y hy => by omega }
  | j + 1, st', hv, x => by
    simp only [srchTo] at hv
    cases h1 : srchTo V e n M st j with
    | none => rw [h1] at hv; cases hv
    | some s =>
      rw [h1] at hv
      simp only [Option.bind_some] at hv
      cases h3 : s.ord[j]? with
      | none =>
        rw [h3] at hv
        injection hv with hv
        subst hv
        have h2 := TAll.srch hub hG hp hu hpr h j s h1 x
        have hl : s.ord.length ≤ j := List.getElem?_eq_none_iff.1 h3
        exact { h2 with
          old := fun i z hi hz => h2.old i z (by
            have := (List.getElem?_eq_some_iff.1 hz).1
            omega) hz
          cur := fun y hy => by omega }
      | some z =>
        rw [h3] at hv
        have h2 := TAll.srch hub hG hp hu hpr h j s h1 z
        obtain ⟨h4, h5⟩ := h2.visitTo hub hG hp hu hpr h3 M st' hv
        refine { s := h4.s, t := h4.t, old := fun i z' hi hz y' hy' => ?_, cur := fun y hy => by omega }
        rcases Nat.lt_or_ge i j with h6 | h6
        · exact h4.old i z' h6 hz y' hy'
        · have e1 : i = j := by omega
          subst e1
          rw [h5] at hz
          injection hz with hz
          subst hz
          exact h4.cur y' hy'
end

/- The weighted inequality of means, over the rationals. Plain Lean. -/

def sumLs : List Rat → Rat
  | [] => 0
  | a :: l => a + sumLs l
def prodLs : List Rat → Rat
  | [] => 1
  | a :: l => a * prodLs l
theorem sumLs_perm {l l' : List Rat} (h : l.Perm l') : sumLs l = sumLs l' := by
  induction h with
  | nil => rfl
  | cons a _ ih => simp only [sumLs, ih]
  | swap a b l => simp only [sumLs]; grind
  | trans _ _ h1 h2 => rw [h1, h2]
theorem prodLs_perm {l l' : List Rat} (h : l.Perm l') : prodLs l = prodLs l' := by
  induction h with
  | nil => rfl
  | cons a _ ih => simp only [prodLs, ih]
  | swap a b l => simp only [prodLs]; grind
  | trans _ _ h1 h2 => rw [h1, h2]
theorem prodLs_pos {l : List Rat} (h : ∀ x ∈ l, 0 < x) : 0 < prodLs l := by
  induction l with
  | nil => decide
  | cons a l ih => exact Rat.mul_pos (h a (by simp)) (ih fun x hx => h x (List.mem_cons_of_mem _ hx))
theorem prodLs_le {l : List Rat} (h : ∀ x ∈ l, 0 < x) (h1 : ∀ x ∈ l, x ≤ 1) : prodLs l ≤ 1 := by
  induction l with
  | nil => exact Rat.le_refl
  | cons a l ih =>
    have i1 := ih (fun x hx => h x (List.mem_cons_of_mem _ hx)) (fun x hx => h1 x (List.mem_cons_of_mem _ hx))
    have i2 := prodLs_pos (l := l) (fun x hx => h x (List.mem_cons_of_mem _ hx))
    have a0 := h a (by simp)
    have a1 := h1 a (by simp)
    simp only [prodLs]
    have := Rat.mul_le_mul_of_nonneg_right a1 (Rat.le_of_lt i2)
    grind
theorem sumLs_ge {l : List Rat} (h : ∀ x ∈ l, 1 ≤ x) : (l.length : Rat) ≤ sumLs l := by
  induction l with
  | nil => exact Rat.le_refl
  | cons a l ih =>
    have i1 := ih fun x hx => h x (List.mem_cons_of_mem _ hx)
    have a1 := h a (by simp)
    simp only [sumLs, List.length_cons, Rat.natCast_add, Rat.natCast_ofNat]
    grind
theorem amgm : ∀ (m : Nat) (l : List Rat), l.length = m → (∀ x ∈ l, 0 < x) → sumLs l ≤ (m : Rat) → prodLs l ≤ 1 := by
  intro m
  induction m with
  | zero =>
    intro l hl _ _
    rw [List.length_eq_zero_iff.1 hl]
    exact Rat.le_refl
  | succ m ih =>
    intro l hl hp hs
    by_cases hex : ∃ a ∈ l, 1 < a
    · obtain ⟨a, ha, ha1⟩ := hex
      have hP := List.perm_cons_erase ha
      have hl2 : (l.erase a).length = m := by rw [List.length_erase_of_mem ha]; omega
      have hsub : ∀ x ∈ l.erase a, 0 < x := fun x hx => hp x (List.mem_of_mem_erase hx)
      have hs2 : a + sumLs (l.erase a) ≤ ((m + 1 : Nat) : Rat) := by
        rw [sumLs_perm hP] at hs
        exact hs
      have hex2 : ∃ c ∈ l.erase a, c < 1 := by
        by_cases h : ∃ c ∈ l.erase a, c < 1
        · exact h
        · exfalso
          have := sumLs_ge (l := l.erase a) fun x hx => by
            by_cases h2 : x < 1
            · exact absurd ⟨x, hx, h2⟩ h
            · grind
          rw [hl2] at this
          simp only [Rat.natCast_add, Rat.natCast_ofNat] at hs2
          grind
      obtain ⟨c, hc, hc1⟩ := hex2
      have hP2 := List.perm_cons_erase hc
      obtain ⟨l2, hl3⟩ : ∃ l2, l2 = (l.erase a).erase c := ⟨_, rfl⟩
      rw [← hl3] at hP2
      have hlen : l2.length + 1 = m := by
        have := List.length_erase_of_mem hc
        have := List.length_pos_of_mem hc
        rw [← hl3] at *
        omega
      have hc0 := hsub c hc
      have hpos2 : ∀ x ∈ l2, 0 < x := fun x hx => hsub x (by rw [hl3] at hx; exact List.mem_of_mem_erase hx)
      have hI := ih ((a + c - 1) :: l2) (by simp [hlen]) (fun x hx => by
        rcases List.mem_cons.1 hx with rfl | hx
        · grind
        · exact hpos2 x hx) (by
        simp only [sumLs]
        rw [sumLs_perm hP2] at hs2
        simp only [sumLs, Rat.natCast_add, Rat.natCast_ofNat] at hs2
        grind)
      rw [prodLs_perm hP]
      simp only [prodLs] at hI ⊢
      rw [prodLs_perm hP2]
      simp only [prodLs]
      have hpp := prodLs_pos hpos2
      have h3 : 0 ≤ (a - 1) * (1 - c) := Rat.mul_nonneg (by grind) (by grind)
      have h4 : a * c ≤ a + c - 1 := by grind
      have h5 := Rat.mul_le_mul_of_nonneg_right h4 (Rat.le_of_lt hpp)
      grind
    · exact prodLs_le hp fun x hx => by
        by_cases h : 1 < x
        · exact absurd ⟨x, hx, h⟩ hex
        · grind
/-- Products of a few. -/
def prodQ (f : Nat → Rat) : Nat → Rat
  | 0 => 1
  | n + 1 => prodQ f n * f n
theorem prodQ_congr {f g : Nat → Rat} {n : Nat} (h : ∀ i, i < n → f i = g i) : prodQ f n = prodQ g n := by
  induction n with
  | zero => rfl
  | succ n ih => simp only [prodQ]; rw [ih fun i hi => h i (by omega), h n (by omega)]
theorem prodQ_pos {f : Nat → Rat} {n : Nat} (h : ∀ i, i < n → 0 < f i) : 0 < prodQ f n := by
  induction n with
  | zero => show (0 : Rat) < 1; decide
  | succ n ih => exact Rat.mul_pos (ih fun i hi => h i (by omega)) (h n (by omega))
theorem prodQ_mul (f g : Nat → Rat) (n : Nat) : prodQ (fun i => f i * g i) n = prodQ f n * prodQ g n := by
  induction n with
  | zero => show (1 : Rat) = 1 * 1; grind
  | succ n ih => simp only [prodQ]; rw [ih]; grind
theorem prodQ_le {f g : Nat → Rat} {n : Nat} (h0 : ∀ i, i < n → 0 < f i) (h : ∀ i, i < n → f i ≤ g i) : prodQ f n ≤ prodQ g n := by
  induction n with
  | zero => exact Rat.le_refl
  | succ n ih =>
    simp only [prodQ]
    have i1 := ih (fun i hi => h0 i (by omega)) (fun i hi => h i (by omega))
    have i2 := prodQ_pos (f := f) (n := n) fun i hi => h0 i (by omega)
    have a0 := h0 n (by omega)
    have a1 := h n (by omega)
    have h2 := Rat.mul_le_mul_of_nonneg_right i1 (Rat.le_of_lt a0)
    have h3 := Rat.mul_le_mul_of_nonneg_left (c := prodQ g n) a1 (by grind)
    grind
theorem pow_pos' {a : Rat} (h : 0 < a) (m : Nat) : 0 < a ^ m := by
  induction m with
  | zero => rw [Rat.pow_zero]; decide
  | succ m ih => rw [Rat.pow_succ]; exact Rat.mul_pos ih h
theorem pow_le' {a c : Rat} (h : 0 < a) (hac : a ≤ c) (m : Nat) : a ^ m ≤ c ^ m := by
  induction m with
  | zero => rw [Rat.pow_zero, Rat.pow_zero]; exact Rat.le_refl
  | succ m ih =>
    rw [Rat.pow_succ, Rat.pow_succ]
    have h1 := pow_pos' h m
    have h2 := Rat.mul_le_mul_of_nonneg_right ih (Rat.le_of_lt h)
    have h3 := Rat.mul_le_mul_of_nonneg_left (c := c ^ m) hac (by grind)
    grind
theorem sumLs_append (l l' : List Rat) : sumLs (l ++ l') = sumLs l + sumLs l' := by
  induction l with
  | nil => simp only [List.nil_append, sumLs]; grind
  | cons a l ih => simp only [List.cons_append, sumLs, ih]; grind
theorem prodLs_append (l l' : List Rat) : prodLs (l ++ l') = prodLs l * prodLs l' := by
  induction l with
  | nil => simp only [List.nil_append, prodLs]; grind
  | cons a l ih => simp only [List.cons_append, prodLs, ih]; grind
theorem sumLs_rep (m : Nat) (a : Rat) : sumLs (List.replicate m a) = (m : Rat) * a := by
  induction m with
  | zero => simp [sumLs]
  | succ m ih => rw [List.replicate_succ]; simp only [sumLs, ih, Rat.natCast_add, Rat.natCast_ofNat]; grind
theorem prodLs_rep (m : Nat) (a : Rat) : prodLs (List.replicate m a) = a ^ m := by
  induction m with
  | zero => rw [Rat.pow_zero]; rfl
  | succ m ih => rw [List.replicate_succ, Rat.pow_succ]; simp only [prodLs, ih]; grind
/-- Each x as often as its weight says. -/
def wl (b : Nat → Nat) (x : Nat → Rat) : Nat → List Rat
  | 0 => []
  | n + 1 => wl b x n ++ List.replicate (b n) (x n)
theorem wl_sum (b : Nat → Nat) (x : Nat → Rat) (n : Nat) : sumLs (wl b x n) = sumQ (fun i => (b i : Rat) * x i) n := by
  induction n with
  | zero => rfl
  | succ n ih => simp only [wl, sumQ, sumLs_append, sumLs_rep, ih]
theorem wl_prod (b : Nat → Nat) (x : Nat → Rat) (n : Nat) : prodLs (wl b x n) = prodQ (fun i => x i ^ b i) n := by
  induction n with
  | zero => rfl
  | succ n ih => simp only [wl, prodQ, prodLs_append, prodLs_rep, ih]
theorem wl_len (b : Nat → Nat) (x : Nat → Rat) (n : Nat) : ((wl b x n).length : Rat) = sumQ (fun i => (b i : Rat)) n := by
  induction n with
  | zero => rfl
  | succ n ih => simp only [wl, sumQ, List.length_append, List.length_replicate, Rat.natCast_add, ih]
theorem wl_pos {b : Nat → Nat} {x : Nat → Rat} {n : Nat} (h : ∀ i, i < n → 0 < x i) : ∀ y ∈ wl b x n, 0 < y := by
  induction n with
  | zero => intro y hy; simp [wl] at hy
  | succ n ih =>
    intro y hy
    rcases List.mem_append.1 hy with hy | hy
    · exact ih (fun i hi => h i (by omega)) y hy
    · rw [List.eq_of_mem_replicate hy]; exact h n (by omega)
theorem wamgm (b : Nat → Nat) (x : Nat → Rat) (n : Nat) (hx : ∀ i, i < n → 0 < x i) (h : sumQ (fun i => (b i : Rat) * x i) n ≤ sumQ (fun i => (b i : Rat)) n) : prodQ (fun i => x i ^ b i) n ≤ 1 := by
  rw [← wl_prod]
  refine amgm (wl b x n).length _ rfl (wl_pos hx) ?_
  rw [wl_sum, wl_len]
  exact h
/-- If the weighted sum is less, so is the product. -/
theorem wamgm_lt (b : Nat → Nat) (x : Nat → Rat) (n : Nat) (hx : ∀ i, i < n → 0 < x i) (h : sumQ (fun i => (b i : Rat) * x i) n < sumQ (fun i => (b i : Rat)) n) : prodQ (fun i => x i ^ b i) n < 1 := by
  obtain ⟨S, hS⟩ : ∃ S, S = sumQ (fun i => (b i : Rat) * x i) n := ⟨_, rfl⟩
  obtain ⟨M, hM⟩ : ∃ M, M = sumQ (fun i => (b i : Rat)) n := ⟨_, rfl⟩
  rw [← hS, ← hM] at h
  have hS0 : 0 ≤ S := by rw [hS]; exact sq_nn fun i hi => Rat.mul_nonneg (Rat.natCast_nonneg) (Rat.le_of_lt (hx i hi))
  -- one with a weight
  have hex : ∃ j, j < n ∧ b j ≠ 0 := by
    by_cases hh : ∃ j, j < n ∧ b j ≠ 0
    · exact hh
    · exfalso
      have : M = 0 := by
        rw [hM]
        exact sumQ_zero fun i hi => by
          by_cases h0 : b i = 0
          · rw [h0]; rfl
          · exact absurd ⟨i, hi, h0⟩ hh
      grind
  obtain ⟨j, hj, hbj⟩ := hex
  have hbj1 : (1 : Rat) ≤ (b j : Rat) := by exact_mod_cast (show 1 ≤ b j by omega)
  -- a little more at j
  obtain ⟨y, hy⟩ : ∃ y, y = fun i => if i = j then x i + (M - S) / (b j : Rat) else x i := ⟨_, rfl⟩
  have hd : 0 < (M - S) / (b j : Rat) := by
    rw [Rat.div_def]
    exact Rat.mul_pos (by grind) (Rat.inv_pos.2 (by grind))
  have hyj : y j = x j + (M - S) / (b j : Rat) := by rw [hy]; simp
  have hyo : ∀ i, i ≠ j → y i = x i := fun i hi => by rw [hy]; simp [hi]
  have hy0 : ∀ i, i < n → 0 < y i := fun i hi => by
    by_cases e : i = j
    · subst e; rw [hyj]; have := hx i hi; grind
    · rw [hyo i e]; exact hx i hi
  have hsum : sumQ (fun i => (b i : Rat) * y i) n = M := by
    have e1 := sumQ_one (f := fun i => (b i : Rat) * y i - (b i : Rat) * x i) (n := n) hj fun i hi hne => by rw [hyo i hne]; grind
    rw [sq_sub] at e1
    have e2 : (b j : Rat) * y j - (b j : Rat) * x j = M - S := by rw [hyj]; grind
    rw [e2, ← hS] at e1
    grind
  have hle := wamgm b y n hy0 (by rw [hsum, hM]; exact Rat.le_refl)
  have hlt : prodQ (fun i => x i ^ b i) n < prodQ (fun i => y i ^ b i) n := by
    have gen : ∀ m, m ≤ n → (j < m → prodQ (fun i => x i ^ b i) m < prodQ (fun i => y i ^ b i) m) := by
      intro m
      induction m with
      | zero => intro _ h; omega
      | succ m ih =>
        intro hm hjm
        simp only [prodQ]
        have p1 := prodQ_pos (f := fun i => x i ^ b i) (n := m) fun i hi => pow_pos' (hx i (by omega)) _
        have p2 := pow_pos' (hx m (by omega)) (b m)
        by_cases e : m = j
        · subst e
          have e1 : prodQ (fun i => x i ^ b i) m = prodQ (fun i => y i ^ b i) m := prodQ_congr fun i hi => by rw [hyo i (by omega)]
          rw [← e1]
          have h1 : x m ^ b m < y m ^ b m := by
            obtain ⟨c, hc⟩ : ∃ c, b m = c + 1 := ⟨b m - 1, by omega⟩
            have hxm := hx m hj
            have hlt : x m < y m := by rw [hyj]; grind
            rw [hc, Rat.pow_succ, Rat.pow_succ]
            have q1 := pow_le' hxm (Rat.le_of_lt hlt) c
            have q2 := pow_pos' hxm c
            have q3 := Rat.mul_le_mul_of_nonneg_right q1 (Rat.le_of_lt (hy0 m hj))
            have q4 := Rat.mul_pos q2 (show 0 < y m - x m by grind)
            grind
          have := Rat.mul_pos p1 (show 0 < y m ^ b m - x m ^ b m by grind)
          grind
        · rw [hyo m e]
          have := Rat.mul_pos (show 0 < prodQ (fun i => y i ^ b i) m - prodQ (fun i => x i ^ b i) m by have := ih (by omega) (by omega); grind) p2
          grind
    exact gen n (Nat.le_refl _) hj
  grind

/- Parts of a market that edges connect, and the prices that they demand. Plain Lean. -/

theorem one_iff {P Q : Prop} (h : P ↔ Q) : one P = one Q := by rw [propext h]
/-- No edge leaves the set. -/
def Clo (n k : Nat) (F : Nat → Nat → Prop) (S T : Nat → Prop) : Prop := ∀ i g, i < n → g < k → F i g → (S i ↔ T g)
section
variable (n k : Nat) (F : Nat → Nat → Prop)
/-- In the same part. -/
def bb (i j : Nat) : Prop := ∀ S T, Clo n k F S T → (S i ↔ S j)
def gg (g h : Nat) : Prop := ∀ S T, Clo n k F S T → (T g ↔ T h)
def bg (i g : Nat) : Prop := ∀ S T, Clo n k F S T → (S i ↔ T g)
end
section
variable {n k : Nat} {F : Nat → Nat → Prop}
theorem bg_of {i g : Nat} (hi : i < n) (hg : g < k) (h : F i g) : bg n k F i g := fun _ _ hc => hc i g hi hg h
theorem bg_bb {i j g : Nat} (h : bg n k F i g) : bb n k F i j ↔ bg n k F j g :=
  ⟨fun h2 S T hc => ((h2 S T hc).symm).trans (h S T hc), fun h2 S T hc => (h S T hc).trans (h2 S T hc).symm⟩
theorem bg_gg {i g h : Nat} (h1 : bg n k F i g) : gg n k F g h ↔ bg n k F i h :=
  ⟨fun h2 S T hc => (h1 S T hc).trans (h2 S T hc), fun h2 S T hc => (h1 S T hc).symm.trans (h2 S T hc)⟩
theorem gg_refl (g : Nat) : gg n k F g g := fun _ _ _ => Iff.rfl
theorem bb_refl (g : Nat) : bb n k F g g := fun _ _ _ => Iff.rfl
end
section
variable (n k : Nat) (F : Nat → Nat → Prop) (b p : Nat → Rat)
/-- What the buyers of a good's part have, and what its goods cost; and so for a buyer's part. -/
noncomputable def gB (g : Nat) : Rat := sumQ (fun j => one (bg n k F j g) * b j) n
noncomputable def gP (g : Nat) : Rat := sumQ (fun h => one (gg n k F g h) * p h) k
noncomputable def bB (i : Nat) : Rat := sumQ (fun j => one (bb n k F i j) * b j) n
noncomputable def bP (i : Nat) : Rat := sumQ (fun h => one (bg n k F i h) * p h) k
noncomputable def lamG (g : Nat) : Rat := gB n k F b g / gP n k F p g
noncomputable def lamB (i : Nat) : Rat := bB n k F b i / bP n k F p i
end
section
variable {n k : Nat} {F : Nat → Nat → Prop} {b p : Nat → Rat}
theorem bg_B {i g : Nat} (h : bg n k F i g) : bB n k F b i = gB n k F b g := sumQ_congr fun j _ => by rw [one_iff (bg_bb h)]
theorem bg_P {i g : Nat} (h : bg n k F i g) : bP n k F p i = gP n k F p g := sumQ_congr fun x _ => by rw [one_iff (bg_gg h)]
theorem lam_eq {i g : Nat} (h : bg n k F i g) : lamB n k F b p i = lamG n k F b p g := by unfold lamB lamG; rw [bg_B h, bg_P h]
variable (hb : ∀ i, i < n → 0 < b i) (hp : ∀ g, g < k → 0 < p g) (hF : ∀ i, i < n → ∃ g, g < k ∧ F i g)
include hp in
theorem gP_pos {g : Nat} (hg : g < k) : 0 < gP n k F p g :=
  sq_pos (fun h hh => Rat.mul_nonneg (one_nn _) (Rat.le_of_lt (hp h hh))) hg (by rw [one_t (gg_refl g)]; have := hp g hg; grind)
include hp hF in
theorem bP_pos {i : Nat} (hi : i < n) : 0 < bP n k F p i := by
  obtain ⟨g, hg, hf⟩ := hF i hi
  rw [bg_P (bg_of hi hg hf)]
  exact gP_pos hp hg
include hb in
theorem bB_pos {i : Nat} (hi : i < n) : 0 < bB n k F b i :=
  sq_pos (fun h hh => Rat.mul_nonneg (one_nn _) (Rat.le_of_lt (hb h hh))) hi (by rw [one_t (bb_refl i)]; have := hb i hi; grind)
theorem div_pos' {a c : Rat} (ha : 0 < a) (hc : 0 < c) : 0 < a / c := by
  rw [Rat.div_def]; exact Rat.mul_pos ha (Rat.inv_pos.2 hc)
theorem div_nn {a c : Rat} (ha : 0 ≤ a) (hc : 0 < c) : 0 ≤ a / c := by
  rw [Rat.div_def]; exact Rat.mul_nonneg ha (Rat.le_of_lt (Rat.inv_pos.2 hc))
include hb hp hF in
theorem lamB_pos {i : Nat} (hi : i < n) : 0 < lamB n k F b p i := div_pos' (bB_pos hb hi) (bP_pos hp hF hi)
include hb hp in
theorem lamG_nn {g : Nat} (hg : g < k) : 0 ≤ lamG n k F b p g := div_nn (sq_nn fun j hj => Rat.mul_nonneg (one_nn _) (Rat.le_of_lt (hb j hj))) (gP_pos hp hg)
include hp hF in
/-- The prices so scaled are in balance on every closed set. -/
theorem lam_bal {S T : Nat → Prop} (hc : Clo n k F S T) : sumQ (fun g => one (T g) * (p g * lamG n k F b p g)) k = sumQ (fun i => one (S i) * b i) n := by
  have e1 : sumQ (fun g => one (T g) * (p g * lamG n k F b p g)) k = sumQ (fun g => sumQ (fun i => one (T g) * (p g / gP n k F p g) * (one (bg n k F i g) * b i)) n) k := by
    refine sumQ_congr fun g hg => ?_
    rw [sumQ_mul]
    unfold lamG
    show _ = one (T g) * (p g / gP n k F p g) * gB n k F b g
    have := gP_pos (n := n) (F := F) hp hg
    generalize gP n k F p g = x at *
    generalize gB n k F b g = y at *
    grind
  rw [e1, sq_swap (fun g i => one (T g) * (p g / gP n k F p g) * (one (bg n k F i g) * b i))]
  refine sumQ_congr fun i hi => ?_
  have hP := bP_pos hp hF hi
  have e2 : sumQ (fun g => one (T g) * (p g / gP n k F p g) * (one (bg n k F i g) * b i)) k = sumQ (fun g => one (S i) * b i / bP n k F p i * (one (bg n k F i g) * p g)) k := by
    refine sumQ_congr fun g hg => ?_
    by_cases hbg : bg n k F i g
    · rw [one_t hbg, ← bg_P hbg, one_iff (hbg S T hc)]
      generalize bP n k F p i = x at *
      grind
    · rw [one_f hbg]; grind
  rw [e2, sumQ_mul]
  show one (S i) * b i / bP n k F p i * bP n k F p i = _
  generalize bP n k F p i = x at *
  grind
include hb hp hF in
/-- What the inequality of means wants. -/
theorem lam_sum : sumQ (fun i => b i / lamB n k F b p i) n ≤ sumQ p k := by
  have e1 : sumQ (fun i => b i / lamB n k F b p i) n = sumQ (fun i => sumQ (fun g => b i / bB n k F b i * (one (bg n k F i g) * p g)) k) n := by
    refine sumQ_congr fun i hi => ?_
    rw [sumQ_mul]
    show b i / (bB n k F b i / bP n k F p i) = b i / bB n k F b i * bP n k F p i
    have h1 := bP_pos hp hF hi
    have h2 := bB_pos (k := k) (F := F) hb hi
    generalize bP n k F p i = x at *
    generalize bB n k F b i = y at *
    have e : b i / (y / x) = b i * (y / x)⁻¹ := Rat.div_def _ _
    have e3 : (y / x)⁻¹ = x / y := by
      have h3 : y / x ≠ 0 := by have := div_pos' h2 h1; grind
      have h4 : y / x * (x / y) = 1 := by grind
      have h5 : y / x * (y / x)⁻¹ = 1 := Rat.mul_inv_cancel _ h3
      have h6 : (y / x)⁻¹ * (y / x * (x / y)) = (y / x)⁻¹ := by rw [h4]; grind
      have h7 : (y / x)⁻¹ * (y / x * (x / y)) = x / y := by rw [← Rat.mul_assoc, Rat.mul_comm (y / x)⁻¹, h5]; grind
      rw [← h6, h7]
    rw [e, e3]
    grind
  rw [e1, sq_swap (fun i g => b i / bB n k F b i * (one (bg n k F i g) * p g))]
  refine sq_mono fun g hg => ?_
  have e2 : sumQ (fun i => b i / bB n k F b i * (one (bg n k F i g) * p g)) n = sumQ (fun i => p g / gB n k F b g * (one (bg n k F i g) * b i)) n := by
    refine sumQ_congr fun i hi => ?_
    by_cases hbg : bg n k F i g
    · rw [one_t hbg, ← bg_B hbg]
      have h2 := bB_pos (k := k) (F := F) hb hi
      generalize bB n k F b i = x at *
      grind
    · rw [one_f hbg]; grind
  rw [e2, sumQ_mul]
  show p g / gB n k F b g * gB n k F b g ≤ p g
  have h1 := hp g hg
  by_cases h0 : gB n k F b g = 0
  · rw [h0]; grind
  · generalize gB n k F b g = x at *
    have : p g / x * x = p g := by grind
    rw [this]
    exact Rat.le_refl
end
end Go.Proofs.Ytnljnjnmhbkdoaa
