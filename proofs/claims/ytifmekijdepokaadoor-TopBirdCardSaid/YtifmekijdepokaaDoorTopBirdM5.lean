/- Laws and contracts that the proof of TopBird uses, part 5. -/
import Derived.Test.YtifmekijdepokaaDoorTopBirdM4
import Derived.Test.YtifmekijdepokaaDoorTopBirdM1
import Derived.Test.YtifmekijdepokaaDoorTopBirdM2
import Derived.DeepKeys
import Derived.Laws.EntriesVeiled
namespace Go.Proofs.YtifmekijdepokaaDoor
open Go.RowKit

/- What steiner computes: plain definitions. -/

/-- What is in one set and not in another one. -/
def dif (s p : Nat) : Nat := s ^^^ (s &&& p)
theorem dif_bit (s p i : Nat) : (dif s p).testBit i = (s.testBit i && !p.testBit i) := by
  unfold dif
  rw [Nat.testBit_xor, Nat.testBit_and]
  cases s.testBit i <;> cases p.testBit i <;> rfl
theorem dif_lt {s p n : Nat} (hs : s < 2 ^ n) : dif s p < 2 ^ n := by
  unfold dif
  exact Nat.xor_lt_two_pow hs (Nat.lt_of_le_of_lt Nat.and_le_left hs)
theorem andnot_nat (a b : Nat) (ha : a < 9223372036854775808) (hb : b < 9223372036854775808) : bits .andNot .i64 (a : Int) (b : Int) = ((dif a b : Nat) : Int) := by
  have hx : dif a b < 2 ^ 63 := dif_lt (by omega)
  show IntKind.i64.wrap ((BitVec.ofInt 64 (a : Int) &&& ~~~(BitVec.ofInt 64 (b : Int))).toNat : Int) = _
  have e : (BitVec.ofInt 64 (a : Int) &&& ~~~(BitVec.ofInt 64 (b : Int))).toNat = dif a b := by
    apply Nat.eq_of_testBit_eq
    intro i
    rw [BitVec.testBit_toNat, BitVec.getLsbD_and, BitVec.getLsbD_not, ← BitVec.testBit_toNat, ← BitVec.testBit_toNat, ofInt_i64 a ha, ofInt_i64 b hb, dif_bit]
    by_cases hi : i < 64
    · simp [hi]
    · have : a.testBit i = false := Nat.testBit_lt_two_pow (Nat.lt_of_lt_of_le (show a < 2 ^ 63 by omega) (Nat.pow_le_pow_right (by omega) (by omega)))
      simp [this]
  rw [e, IntKind.wrap_i64]
  omega
theorem part_lt {set part : Nat} (h : part ≠ 0) : (part - 1) &&& set < part := by
  have := @Nat.and_le_left (part - 1) set
  omega
/-- The parts of a set, from one on down. -/
def pF (L : Nat → Nat → Int) (set v : Nat) (part : Nat) (acc : Int) : Int :=
  if _h : part = 0 then acc else pF L set v ((part - 1) &&& set) (cMin acc (L part v + L (dif set part) v))
termination_by part
decreasing_by exact part_lt _h
theorem pF_zero (L : Nat → Nat → Int) (set v : Nat) (acc : Int) : pF L set v 0 acc = acc := by rw [pF]; simp
theorem pF_step (L : Nat → Nat → Int) (set v : Nat) {part : Nat} (acc : Int) (h : part ≠ 0) : pF L set v part acc = pF L set v ((part - 1) &&& set) (cMin acc (L part v + L (dif set part) v)) := by
  rw [pF]; simp [h]
/-- A row before it is merged. -/
def rowA (L d : Nat → Nat → Int) (set v : Nat) : Int := pF L set v ((set - 1) &&& set) (if set &&& (set - 1) = 0 then d (lowb set) v else far)
def mrg (A d : Nat → Nat → Int) (k v : Nat) : Nat → Int → Int
  | 0, acc => acc
  | u + 1, acc => cMin (mrg A d k v u acc) (A k u + d u v)
def rowB (L d : Nat → Nat → Int) (N set v : Nat) : Int := mrg (rowA L d) d set v N (rowA L d set v)
def skipB (stops set : Nat) : Bool := decide (dif set stops ≠ 0) || decide (set = 0)
/-- The table of the sets below k. -/
def stT (d : Nat → Nat → Int) (N stops : Nat) : Nat → Nat → Nat → Int
  | 0 => fun _ _ => 0
  | k + 1 => fun s v => if s = k then (if skipB stops k then far else rowB (stT d N stops k) d N k v) else stT d N stops k s v
theorem pF_bd {L : Nat → Nat → Int} (hL : Bd L) (set v : Nat) : ∀ (n part : Nat), part ≤ n → ∀ acc, (0 ≤ acc ∧ acc ≤ far) → 0 ≤ pF L set v part acc ∧ pF L set v part acc ≤ far
  | 0, part, hp, acc, ha => by
    obtain rfl : part = 0 := by omega
    rw [pF_zero]; exact ha
  | n + 1, part, hp, acc, ha => by
    by_cases h : part = 0
    · subst h; rw [pF_zero]; exact ha
    · rw [pF_step _ _ _ _ h]
      exact pF_bd hL set v n _ (by have := part_lt (set := set) h; omega) _ (cMin_bd ha (by have := hL part v; have := hL (dif set part) v; omega))
theorem rowA_bd {L d : Nat → Nat → Int} (hL : Bd L) (hd : Bd d) (set v : Nat) : 0 ≤ rowA L d set v ∧ rowA L d set v ≤ far := by
  unfold rowA
  refine pF_bd hL set v _ _ (Nat.le_refl _) _ ?_
  split
  · exact hd _ _
  · unfold far; omega
theorem mrg_bd {A d : Nat → Nat → Int} (hA : Bd A) (hd : Bd d) (k v : Nat) : ∀ (u : Nat) (acc : Int), (0 ≤ acc ∧ acc ≤ far) → 0 ≤ mrg A d k v u acc ∧ mrg A d k v u acc ≤ far
  | 0, acc, h => h
  | u + 1, acc, h => cMin_bd (mrg_bd hA hd k v u acc h) (by have := hA k u; have := hd u v; omega)
theorem Bd.stT {d : Nat → Nat → Int} (hd : Bd d) (N stops : Nat) : ∀ k, Bd (stT d N stops k)
  | 0 => fun _ _ => by show (0 : Int) ≤ 0 ∧ (0 : Int) ≤ far; unfold far; omega
  | k + 1 => fun s v => by
    show 0 ≤ (if s = k then (if skipB stops k then far else rowB (Go.Proofs.YtifmekijdepokaaDoor.stT d N stops k) d N k v) else Go.Proofs.YtifmekijdepokaaDoor.stT d N stops k s v) ∧ (if s = k then (if skipB stops k then far else rowB (Go.Proofs.YtifmekijdepokaaDoor.stT d N stops k) d N k v) else Go.Proofs.YtifmekijdepokaaDoor.stT d N stops k s v) ≤ far
    split
    · split
      · unfold far; omega
      · exact mrg_bd (fun a b => rowA_bd (Bd.stT hd N stops k) hd a b) hd k v N _ (rowA_bd (Bd.stT hd N stops k) hd k v)
    · exact Bd.stT hd N stops k s v
/-- The table while row k is filled: below v it is A, from there on Z; and at v it is ac. -/
def fA (L : Nat → Nat → Int) (k v : Nat) (A Z : Nat → Int) : Nat → Nat → Int := fun s x => if s = k then (if x < v then A x else Z x) else L s x
def fB (L : Nat → Nat → Int) (k v : Nat) (A : Nat → Int) (ac : Int) (Z : Nat → Int) : Nat → Nat → Int := fun s x => if s = k then (if x < v then A x else if x = v then ac else Z x) else L s x
section
variable {L : Nat → Nat → Int} {k v : Nat} {A Z : Nat → Int} {ac ac' : Int}
theorem fA_upd : updI (fA L k v A Z) k v ac = fB L k v A ac Z := by
  funext a b
  unfold updI fA fB
  by_cases e1 : a = k
  · by_cases e2 : b = v
    · rw [if_pos ⟨e1, e2⟩, if_pos e1, if_neg (by omega), if_pos e2]
    · rw [if_neg (fun h => e2 h.2), if_pos e1, if_pos e1, if_neg e2]
  · rw [if_neg (fun h => e1 h.1), if_neg e1, if_neg e1]
theorem fB_upd : updI (fB L k v A ac Z) k v ac' = fB L k v A ac' Z := by
  funext a b
  unfold updI fB
  by_cases e1 : a = k
  · by_cases e2 : b = v
    · rw [if_pos ⟨e1, e2⟩, if_pos e1, if_neg (by omega), if_pos e2]
    · rw [if_neg (fun h => e2 h.2), if_pos e1, if_pos e1, if_neg e2, if_neg e2]
  · rw [if_neg (fun h => e1 h.1), if_neg e1, if_neg e1]
theorem fA_B (h : Z v = ac) : fA L k v A Z = fB L k v A ac Z := by
  funext a b
  unfold fA fB
  by_cases e1 : a = k
  · rw [if_pos e1, if_pos e1]
    by_cases e2 : b < v
    · rw [if_pos e2, if_pos e2]
    · rw [if_neg e2, if_neg e2]
      by_cases e3 : b = v
      · rw [if_pos e3, e3, h]
      · rw [if_neg e3]
  · rw [if_neg e1, if_neg e1]
theorem fB_next (h : ac = A v) : fB L k v A ac Z = fA L k (v + 1) A Z := by
  funext a b
  unfold fA fB
  by_cases e1 : a = k
  · rw [if_pos e1, if_pos e1]
    by_cases e2 : b < v
    · rw [if_pos e2, if_pos (by omega)]
    · rw [if_neg e2]
      by_cases e3 : b = v
      · rw [if_pos e3, if_pos (by omega), h, e3]
      · rw [if_neg e3, if_neg (by omega)]
  · rw [if_neg e1, if_neg e1]
theorem fA_at : fA L k v A Z k v = Z v := by unfold fA; rw [if_pos rfl, if_neg (Nat.lt_irrefl _)]
theorem fB_at : fB L k v A ac Z k v = ac := by unfold fB; rw [if_pos rfl, if_neg (Nat.lt_irrefl _), if_pos rfl]
theorem fB_other {s x : Nat} (h : s ≠ k) : fB L k v A ac Z s x = L s x := by unfold fB; rw [if_neg h]
theorem fA_zero {z : Int} : (fun s x => if s = k then z else L s x) = fA L k 0 A (fun _ => z) := by
  funext a b
  unfold fA
  by_cases e1 : a = k
  · rw [if_pos e1, if_pos e1, if_neg (by omega)]
  · rw [if_neg e1, if_neg e1]
theorem fA_0 (a b : Nat) : fA L k 0 A Z a b = if a = k then Z b else L a b := by
  unfold fA
  by_cases e1 : a = k
  · rw [if_pos e1, if_neg (by omega), if_pos e1]
  · rw [if_neg e1, if_neg e1]
theorem fA_all {a b N : Nat} (hb : b < N) : fA L k N A Z a b = if a = k then A b else L a b := by
  unfold fA
  by_cases e1 : a = k
  · rw [if_pos e1, if_pos hb, if_pos e1]
  · rw [if_neg e1, if_neg e1]
end

/- Append of one element: the slice that was appended to stays what it was. -/

theorem run_keep {T e : TypeId} {z : Value} {bytes : Nat} (ty : STy T e z 1 bytes) (rt : TypeId) {w w' : World} {base : Nat} {v v' : Value} {n : Nat} {xs : List Value} (hown : w.ownsRow base e 1 v n xs)
    {a : Addr} {m c : Nat} {news : List Value} (hl : news.length = m * 1) (hnews : ∀ j u, news[j]? = some u → w.cell? (a.add j) = some u) (h1 : ∀ u ∈ news, u.oneCell' = true)
    (hn : n + m ≤ 1000000) (hr : (Builtin.append_ #[T, T] rt #[v, .slice (some a) m c]).run Tryd.prog w = .ok v' w') (hown' : w'.ownsRow base e 1 v' (n + m) (xs ++ news)) (hm : 0 < m) : w'.ownsRow base e 1 v n xs := by
  obtain ⟨i0, hi, hz0, hz1, hz2⟩ := info_parts ty.inf
  have hb : (n + m) * i0.bytes ≤ 140737488355328 := by
    have h2 := ty.hby
    rw [hz2]
    calc (n + m) * bytes ≤ 1000000 * 100 := Nat.mul_le_mul (by omega) h2
      _ ≤ _ := by decide
  have hxl : xs.length = n := by have := hown.1; omega
  rcases hown.2 with ⟨rfl, rfl⟩ | ⟨g, cap, cur, rfl, hbg, hg, hnc, hcm, hcs, htake⟩
  · exact ⟨hown.1, .inl ⟨rfl, rfl⟩⟩
  · by_cases hroom : n + m ≤ cap
    · have hfit : n * i0.size + news.length ≤ cur.size := by rw [hz1, hl, hcs]; omega
      have h := run_append_room (P := Tryd.prog) w T rt e i0 ty.ht hi g n cap cur hg a m c news (by rw [hz1]; exact hl) hnews h1 hroom hfit
      rw [h] at hr
      injection hr with hr _
      rw [← hr] at hown'
      rcases hown'.2 with ⟨h0, _⟩ | ⟨g', cap', cur', hv, hbg', hg', hnc', hcm', hcs', htake'⟩
      · cases h0
      · injection hv with e1 _ e3
        injection e1 with e1
        injection e1 with e1
        subst e1; subst e3
        refine ⟨hown.1, .inr ⟨g, cap, cur', rfl, hbg, hg', hnc, hcm, hcs', ?_⟩⟩
        rw [Nat.mul_one] at htake' ⊢
        have h3 := congrArg (List.take n) htake'
        rwa [List.take_take, Nat.min_eq_left (by omega), List.take_left' hxl] at h3
    · have holds : ∀ j u, xs[j]? = some u → w.cell? ((⟨g, 0, none⟩ : Addr).add j) = some u := hown.cells (g := g) rfl
      have h := run_append_grow (P := Tryd.prog) w T rt e i0 z ty.ht hi hz0 ⟨g, 0, none⟩ n cap xs (by rw [hz1]; exact hown.1) holds a m c news (by rw [hz1]; exact hl) hnews (by omega) (by omega) (growslice_fits (by omega) hb)
      rw [h] at hr
      injection hr with _ hr
      rw [← hr]
      exact hown.alloc _

theorem step_app1k {T e : TypeId} {z : Value} {bytes : Nat} (ty : STy T e z 1 bytes) {ops : Array Oper} {o : Oper} {a : Act} {K : Act → World → Prop} {Q : Exit → Act → World → Prop} {E : Prop} {w : World}
    (s x : Operand) (ho : o.op = .call { callee := .builtin .append, args := #[s, x], argTypes := #[T, T] }) (hwant : Region.wanted o (yielded ops a.tmps) = true)
    (base : Nat) (A : Option Addr) (n k : Nat) (xs : List Value) (u : Value) (h1 : u.oneCell' = true)
    (hs : a.eval s = .slice A n k) (hown : w.ownsRow base e 1 (.slice A n k) n xs) (hx : a.eval x = .slice (some ⟨w.heap.size, 0, none⟩) 1 1)
    (hn : n ≤ 100000) (hb : base ≤ w.heap.size)
    (h : ∀ (A' : Option Addr) (k' : Nat) (w' : World), w'.ownsRow base e 1 (.slice A' (n + 1) k') (n + 1) (xs ++ [u]) → w.grownBy w' (Value.slice A n k).ownBlock → Below base w w' → n + 1 ≤ k' → k' ≤ 9223372036854775807 → Stay w (.slice A' (n + 1) k') (.slice A n k) → w'.ownsRow base e 1 (.slice A n k) n xs →
      K (a.put o.dst (.slice A' (n + 1) k')) w') : if Region.wanted o (yielded ops a.tmps) = true then Oper.wp Tryd.prog o a (w.alloc (.cells #[u] e)) K Q else E := by
  rw [if_pos hwant]
  obtain ⟨i0, hi, hz0, hz1, hz2⟩ := info_parts ty.inf
  have hnews : ∀ j x, [u][j]? = some x → (w.alloc (.cells #[u] e)).cell? ((⟨w.heap.size, 0, none⟩ : Addr).add j) = some x := by
    intro j x hx
    exact (At.some2 (Blk.new w e #[u] rfl).at_) j x hx
  have hbytes : (n + 1) * bytes ≤ 140737488355328 := by
    have h2 := ty.hby
    calc (n + 1) * bytes ≤ 1000000 * 100 := Nat.mul_le_mul (by omega) h2
      _ ≤ _ := by decide
  have hone : ∀ x ∈ [u], x.oneCell' = true := by intro x hx; rw [List.mem_singleton.1 hx]; exact h1
  obtain ⟨v', w', hr, hown', hg, _⟩ := run_append_own (P := Tryd.prog) (w.alloc (.cells #[u] e)) base T o.type e i0 z 1 bytes ty.ht hi hz0 hz1 hz2 ty.hzs ty.hsz (.slice A n k) n xs (hown.alloc _)
    ⟨w.heap.size, 0, none⟩ 1 1 [u] rfl hnews hone (by unfold maxLen; omega) hbytes (by go_size)
  have hst := run_where ty o.type (hown.alloc _) (m := 1) rfl hnews hone (by omega) hr (by omega)
  have hkp := run_keep ty o.type (hown.alloc _) (m := 1) rfl hnews hone (by omega) hr hown' (by omega)
  unfold Oper.wp execOp
  simp only [ho, resolve, invoke, builtin, Sem.run_bind, Sem.run_pure, Result.andThen_ok, List.map_toArray, List.map_cons, List.map_nil, hs, hx, hr]
  obtain ⟨A', k', rfl, hk, hk', _⟩ := own_form hown'
  have hg' : w.grownBy w' (Value.slice A n k).ownBlock :=
    ⟨hg.os, hg.tape, hg.output, Nat.le_trans (by simp) hg.size, fun b hb hne => (hg.block b (Nat.lt_of_lt_of_le hb (by simp)) hne).trans (Below.heap_alloc w _ b hb)⟩
  refine h A' k' w' hown' hg' ?_ hk hk' ?_ hkp
  · refine ⟨hg'.os, hg'.tape, hg'.output, hg'.size, fun b hb' => hg'.block b (by omega) fun he => ?_⟩
    have := (hown.lt b he.symm).1
    omega
  · intro ad' n' k'' he
    rcases hst ad' n' k'' he with h | h
    · exact .inl h
    · exact .inr (Nat.le_trans (by simp) h)

/- Plain: what the inner function of first finds; and its memory. -/

theorem rfs_none {α : Type} {f : Nat → Option α} {n : Nat} (h : ∀ j, j < n → f j = none) : (List.range n).findSome? f = none := by
  rw [List.findSome?_eq_none_iff]; exact fun j hj => h j (List.mem_range.1 hj)
theorem rfs_some {α : Type} {f : Nat → Option α} {k : Nat} {x : α} (h : ∀ j, j < k → f j = none) (hx : f k = some x) : ∀ n, k < n → (List.range n).findSome? f = some x
  | 0, hk => by omega
  | n + 1, hk => by
    rw [List.range_succ, List.findSome?_append]
    by_cases e : k = n
    · subst e
      rw [rfs_none h]
      simp [hx]
    · rw [rfs_some h hx n (by omega)]; rfl
theorem plain_int : Tryd.prog.plainKey 3 = true := by kernel_rfl
theorem cells_int : Tryd.prog.cellsOf 3 = 1 := by kernel_rfl
theorem under_parts : Tryd.prog.underlying 75 = some (.array 8 3) := by kernel_rfl
theorem run_eq_int (d : Nat) (a b : Int) (w : World) : (Op.equalIn (d + 1) 3 (.int .i64 a) (.int .i64 b)).run Tryd.prog w = .ok (a == b) w := by
  simp [Op.equalIn, run_underlying Tryd.underlying3]
theorem items_int (d : Nat) (xs ys : List Int) (w : World) : ∀ is : List Nat, (∀ i ∈ is, i < xs.length ∧ i < ys.length) →
    (Op.eqItems (d + 1) 3 1 (arr xs) (arr ys) is).run Tryd.prog w = .ok (is.all fun i => xs.getD i 0 == ys.getD i 0) w
  | [], _ => by simp [Op.eqItems]
  | i :: is, h => by
    obtain ⟨h1, h2⟩ := h i (List.mem_cons_self ..)
    have g1 : (arr xs)[i * 1]? = some (.int .i64 (xs.getD i 0)) := by rw [Nat.mul_one, arr_get, List.getD_eq_getElem?_getD, List.getElem?_eq_getElem h1]; rfl
    have g2 : (arr ys)[i * 1]? = some (.int .i64 (ys.getD i 0)) := by rw [Nat.mul_one, arr_get, List.getD_eq_getElem?_getD, List.getElem?_eq_getElem h2]; rfl
    have p1 := run_part_plain (P := Tryd.prog) (w := w) plain_int g1
    have p2 := run_part_plain (P := Tryd.prog) (w := w) plain_int g2
    have ih := items_int d xs ys w is fun j hj => h j (List.mem_cons_of_mem _ hj)
    simp only [Op.eqItems, Sem.run_bind, p1, p2, run_eq_int, Result.andThen_ok, List.all_cons]
    cases he : xs.getD i 0 == ys.getD i 0 with
    | true => simpa using ih
    | false => simp
set_option maxRecDepth 100000 in
set_option maxHeartbeats 1600000 in
theorem run_eq_parts (y0 y1 y2 y3 y4 y5 y6 y7 x0 x1 x2 x3 x4 x5 x6 x7 : Int) (w : World) : (binOp .eql 75 (.agg #[.int .i64 y0, .int .i64 y1, .int .i64 y2, .int .i64 y3, .int .i64 y4, .int .i64 y5, .int .i64 y6, .int .i64 y7]) (.agg #[.int .i64 x0, .int .i64 x1, .int .i64 x2, .int .i64 x3, .int .i64 x4, .int .i64 x5, .int .i64 x6, .int .i64 x7])).run Tryd.prog w = .ok (.bool (decide ([y0, y1, y2, y3, y4, y5, y6, y7] = [x0, x1, x2, x3, x4, x5, x6, x7]))) w := by
  obtain ⟨i, hi, _⟩ := info_parts info_int
  have h1 : (Op.equalIn 10000 75 (.agg #[.int .i64 y0, .int .i64 y1, .int .i64 y2, .int .i64 y3, .int .i64 y4, .int .i64 y5, .int .i64 y6, .int .i64 y7]) (.agg #[.int .i64 x0, .int .i64 x1, .int .i64 x2, .int .i64 x3, .int .i64 x4, .int .i64 x5, .int .i64 x6, .int .i64 x7])).run Tryd.prog w = .ok (decide ([y0, y1, y2, y3, y4, y5, y6, y7] = [x0, x1, x2, x3, x4, x5, x6, x7])) w := by
    have h2 := run_equalIn_array (P := Tryd.prog) (w := w) 9999 (arr [y0, y1, y2, y3, y4, y5, y6, y7]) (arr [x0, x1, x2, x3, x4, x5, x6, x7]) under_parts hi
    rw [cells_int] at h2
    have h3 := items_int 9998 [y0, y1, y2, y3, y4, y5, y6, y7] [x0, x1, x2, x3, x4, x5, x6, x7] w (List.range 8) (fun i hi => by have := List.mem_range.1 hi; exact ⟨this, this⟩)
    refine (h2.trans h3).trans ?_
    congr 1
    rw [Bool.eq_iff_iff, decide_eq_true_eq]
    simp [show List.range 8 = [0, 1, 2, 3, 4, 5, 6, 7] from rfl]
  go_simp
/-- What grow finds. -/
def growF (rs : List Rd) (s : Nat) (K : Int) (long : Nat) : Nat → Nat → Int → List Int → List Int → Option (List Int)
  | 0, _, _, _, _ => none
  | f + 1, i0, left, p, l =>
    if l.length = long then (if (treeF rs s l).2 && decide ((treeF rs s l).1 = K) then some l else none)
    else (List.range rs.length).findSome? fun i =>
      if i < i0 ∨ pjoinL p (rdN rs i).1.toNat (rdN rs i).2.1.toNat = p ∨ left < (rdN rs i).2.2 then none
      else growF rs s K long f (i + 1) (left - (rdN rs i).2.2) (pjoinL p (rdN rs i).1.toNat (rdN rs i).2.1.toNat) (l ++ [(i : Int)])
/-- What first's calls share. -/
structure FX where
  W0 : World
  N : Int
  R : Option Addr
  n : Nat
  c : Nat
  rs : List Rd
  s : Nat
  K : Int
  long : Nat
  Bl : Nat
  Blo : Nat
  Bm : Nat
  Bs : Nat
  Bc : Nat
  Bg : Nat
  base : Nat
  g0 : Nat
  top : Nat
def FX.caps (X : FX) : Array Value := #[.pointer (some ⟨X.Bl, 0, none⟩), .pointer (some ⟨X.Blo, 0, none⟩), .pointer (some ⟨X.Bm, 0, none⟩), .pointer (some ⟨X.Bs, 0, none⟩), .pointer (some ⟨X.Bc, 0, none⟩), .pointer (some ⟨X.Bg, 0, none⟩)]
structure FX.ok (X : FX) : Prop where
  hl : X.rs.length = X.n
  hv : mapOk X.N X.rs = true
  hR : Rds X.W0 X.R X.rs
  ht : TabW X.W0
  h2 : 2 ≤ X.W0.heap.size
  hs : 1 ≤ X.s ∧ X.s < 256
  low : X.W0.heap.size ≤ X.Bl ∧ X.Bl < X.top ∧ X.Bl ≠ X.g0 ∧ X.W0.heap.size ≤ X.base ∧ X.base ≤ X.g0 ∧ X.g0 < X.top
  ne : X.Blo ≠ X.Bl ∧ X.Bm ≠ X.Bl ∧ X.Bs ≠ X.Bl ∧ X.Bc ≠ X.Bl ∧ X.Bg ≠ X.Bl
  lt : X.Blo < X.top ∧ X.Bm < X.top ∧ X.Bs < X.top ∧ X.Bc < X.top ∧ X.Bg < X.top
  ng : X.Blo ≠ X.g0 ∧ X.Bm ≠ X.g0 ∧ X.Bs ≠ X.g0 ∧ X.Bc ≠ X.g0 ∧ X.Bg ≠ X.g0
structure FX.fix (X : FX) (w : World) : Prop where
  lo : Blk w X.Blo 3 #[.int .i64 X.long]
  m : Blk w X.Bm 26 #[.int .i64 X.N, .slice X.R X.n X.c]
  s : Blk w X.Bs 3 #[.int .i64 X.s]
  c : Blk w X.Bc 3 #[.int .i64 X.K]
  g : Blk w X.Bg 96 #[.func (.func 64) #[] X.caps]
  bel : Below X.W0.heap.size X.W0 w
  bs : X.top ≤ w.heap.size
section
variable {X : FX} {w w' : World} {gl : Nat}
theorem fx_notin {b Bl gl g0 top : Nat} (h1 : b ≠ Bl) (h2 : b < top) (h3 : b ≠ g0) (hgl : gl = g0 ∨ top ≤ gl) : b ∉ [Bl, gl] := by
  simp only [List.mem_cons, List.not_mem_nil, or_false, not_or]
  exact ⟨h1, by omega⟩
theorem fx_some {b gl g0 top : Nat} (h2 : b < top) (h3 : b ≠ g0) (hgl : gl = g0 ∨ top ≤ gl) : some b ≠ some gl := fun h => by injection h with h; omega
theorem FX.fix.kept (h : X.fix w) (hx : X.ok) (hgl : gl = X.g0 ∨ X.top ≤ gl) (hk : Kept w.heap.size [X.Bl, gl] w w') : X.fix w' := by
  refine ⟨h.lo.kept hk h.lo.lt (fx_notin hx.ne.1 hx.lt.1 hx.ng.1 hgl), h.m.kept hk h.m.lt (fx_notin hx.ne.2.1 hx.lt.2.1 hx.ng.2.1 hgl), h.s.kept hk h.s.lt (fx_notin hx.ne.2.2.1 hx.lt.2.2.1 hx.ng.2.2.1 hgl), h.c.kept hk h.c.lt (fx_notin hx.ne.2.2.2.1 hx.lt.2.2.2.1 hx.ng.2.2.2.1 hgl), h.g.kept hk h.g.lt (fx_notin hx.ne.2.2.2.2 hx.lt.2.2.2.2 hx.ng.2.2.2.2 hgl), ?_, Nat.le_trans h.bs hk.size⟩
  refine h.bel.trans (hk.mono (B' := X.W0.heap.size) (S' := []) h.bel.size (fun x hx2 => ?_)).below
  right
  simp only [List.mem_cons, List.not_mem_nil, or_false] at hx2
  have hlo := hx.low
  clear h hk
  omega
theorem FX.fix.below (h : X.fix w) (hb : Below w.heap.size w w') : X.fix w' :=
  ⟨h.lo.below hb h.lo.lt, h.m.below hb h.m.lt, h.s.below hb h.s.lt, h.c.below hb h.c.lt, h.g.below hb h.g.lt, h.bel.trans (hb.mono h.bel.size), by have := hb.size; have := h.bs; omega⟩
end
/-- What grow holds of its list. -/
structure LsB (X : FX) (w : World) (gl cap : Nat) (l : List Int) : Prop where
  box : Blk w X.Bl 22 #[.slice (some ⟨gl, 0, none⟩) l.length cap]
  own : w.ownsRow X.base 3 1 (.slice (some ⟨gl, 0, none⟩) l.length cap) l.length (l.map (Value.int .i64))
  ge : gl = X.g0 ∨ X.top ≤ gl
theorem LsB.below {X : FX} {w w' : World} {gl cap : Nat} {l : List Int} (h : LsB X w gl cap l) (hb : Below w.heap.size w w') : LsB X w' gl cap l := ⟨h.box.below hb h.box.lt, own_below h.own hb, h.ge⟩
theorem LsB.ints {X : FX} {w : World} {gl cap : Nat} {l : List Int} (h : LsB X w gl cap l) : Ints w (some ⟨gl, 0, none⟩) l := At.of_own h.own
theorem LsB.lt {X : FX} {w : World} {gl cap : Nat} {l : List Int} (h : LsB X w gl cap l) : gl < w.heap.size := by
  rcases h.own.2 with ⟨h0, _⟩ | ⟨g, cap, cur, hv, _, hg, _⟩
  · cases h0
  · injection hv with e1 _ _
    injection e1 with e1
    injection e1 with e1
    subst e1
    exact lt_of_block hg
theorem FX.fix.drewN {X : FX} {w : World} (h : X.fix w) (k : Nat) : X.fix (w.drewN k) := ⟨h.lo, h.m, h.s, h.c, h.g, below_drewN h.bel k, h.bs⟩
theorem LsB.drewN {X : FX} {w : World} {gl cap : Nat} {l : List Int} (h : LsB X w gl cap l) (k : Nat) : LsB X (w.drewN k) gl cap l := ⟨h.box, h.own, h.ge⟩
theorem FX.fix.app {X : FX} {w w' : World} {gl : Nat} (h : X.fix w) (hx : X.ok) (hgl : gl = X.g0 ∨ X.top ≤ gl) (hb : Below X.base w w') (hg : w.grownBy w' (some gl)) (v : Value) : X.fix (w'.setCell ⟨X.Bl, 0, none⟩ v) := by
  exact ⟨(h.lo.grown hg (fx_some hx.lt.1 hx.ng.1 hgl)).far hx.ne.1 _, (h.m.grown hg (fx_some hx.lt.2.1 hx.ng.2.1 hgl)).far hx.ne.2.1 _, (h.s.grown hg (fx_some hx.lt.2.2.1 hx.ng.2.2.1 hgl)).far hx.ne.2.2.1 _, (h.c.grown hg (fx_some hx.lt.2.2.2.1 hx.ng.2.2.2.1 hgl)).far hx.ne.2.2.2.1 _, (h.g.grown hg (fx_some hx.lt.2.2.2.2 hx.ng.2.2.2.2 hgl)).far hx.ne.2.2.2.2 _, (h.bel.trans (hb.mono hx.low.2.2.2.1)).setCell hx.low.1 _, by have := hb.size; have := h.bs; simp [World.setCell]; omega⟩
theorem own_far1 {w : World} {base e size n g c : Nat} {xs : List Value} (h : w.ownsRow base e size (.slice (some ⟨g, 0, none⟩) n c) n xs) {p : Addr} (hp : g ≠ p.block) (u : Value) : (w.setCell p u).ownsRow base e size (.slice (some ⟨g, 0, none⟩) n c) n xs := by
  obtain ⟨h1, h2⟩ := h
  refine ⟨h1, ?_⟩
  rcases h2 with h2 | ⟨g2, cap, cur, hv, a1, a2, a3⟩
  · exact .inl h2
  · injection hv with e1 e2 e3
    injection e1 with e1
    injection e1 with e1
    subst e1; subst e3
    exact .inr ⟨g, c, cur, rfl, a1, (Below.heap_setCell w p u g hp).trans a2, a3⟩
/-- One element more, and the list's variable holds it. -/
theorem LsB.app {X : FX} {w w' : World} {gl cap g' k' : Nat} {l : List Int} (h : LsB X w gl cap l) (hx : X.ok) (y : Int) (hgb : w.grownBy w' (some gl)) (hown : w'.ownsRow X.base 3 1 (.slice (some ⟨g', 0, none⟩) (l.length + 1) k') (l.length + 1) (l.map (Value.int .i64) ++ [.int .i64 y])) (hg : g' = X.g0 ∨ X.top ≤ g') :
    LsB X (w'.setCell ⟨X.Bl, 0, none⟩ (.slice (some ⟨g', 0, none⟩) (l.length + 1) k')) g' k' (l ++ [y]) := by
  have hlo := hx.low
  have hge := h.ge
  refine ⟨?_, ?_, hg⟩
  · have := (h.box.grown hgb (fun h3 => by injection h3 with h3; omega)).set_ 0 (.slice (some ⟨g', 0, none⟩) (l.length + 1) k')
    rw [List.length_append]
    exact this
  · rw [List.length_append, List.map_append]
    exact own_far1 hown (by show g' ≠ X.Bl; omega) _
/-- The last element taken off. -/
theorem own_pop1 {w : World} {base gl cap j : Nat} {xs : List Value} {y : Value} (h : w.ownsRow base 3 1 (.slice (some ⟨gl, 0, none⟩) (j + 1) cap) (j + 1) (xs ++ [y])) : w.ownsRow base 3 1 (.slice (some ⟨gl, 0, none⟩) j cap) j xs := by
  obtain ⟨hl, h⟩ := h
  have hl' : xs.length = j := by simp at hl; omega
  refine ⟨by omega, ?_⟩
  rcases h with ⟨h0, _⟩ | ⟨g, c, cur, hv, h1, h2, h3, h4, h5, h6⟩
  · cases h0
  · injection hv with e1 _ e3
    injection e1 with e1
    injection e1 with e1
    subst e1; subst e3
    refine .inr ⟨gl, cap, cur, rfl, h1, h2, by omega, h4, h5, ?_⟩
    rw [Nat.mul_one] at h6 ⊢
    have h3 := congrArg (List.take j) h6
    rwa [List.take_take, Nat.min_eq_left (by omega), List.take_left' hl'] at h3
/-- The list's last element taken off. -/
theorem LsB.pop {X : FX} {w : World} {gl cap : Nat} {l : List Int} {y : Int} (h : LsB X w gl cap (l ++ [y])) (hx : X.ok) : LsB X (w.setCell ⟨X.Bl, 0, none⟩ (.slice (some ⟨gl, 0, none⟩) l.length cap)) gl cap l := by
  refine ⟨h.box.set_ 0 _, ?_, h.ge⟩
  have h1 := h.own
  have hlo := hx.low
  have hge := h.ge
  rw [List.length_append, List.map_append] at h1
  exact own_far1 (own_pop1 h1) (by show gl ≠ X.Bl; omega) _

/- Trees where all stops lie on one road: plain Lean. -/

/-- How far a stop lies from the beginning. -/
def sumS (cs : List Int) : Nat → Int
  | 0 => 0
  | v + 1 => sumS cs v + cs.getD v 0
def pathR (cs : List Int) : List Rd := (List.range cs.length).map fun i : Nat => ((i : Int), (i : Int) + 1, cs.getD i 0)
theorem pathR_length (cs : List Int) : (pathR cs).length = cs.length := by simp [pathR]
theorem pathR_get {cs : List Int} {i : Nat} (h : i < cs.length) : (pathR cs)[i]? = some ((i : Int), (i : Int) + 1, cs.getD i 0) := by
  unfold pathR
  rw [List.getElem?_map, List.getElem?_range h]; rfl
theorem pathR_rd {cs : List Int} {i : Nat} (h : i < cs.length) : rdN (pathR cs) (i : Int) = ((i : Int), (i : Int) + 1, cs.getD i 0) := by
  unfold rdN
  rw [Int.toNat_natCast, List.getD_eq_getElem?_getD, pathR_get h]; rfl
theorem pathR_snoc (cs : List Int) (c : Int) : pathR (cs ++ [c]) = pathR cs ++ [((cs.length : Int), (cs.length : Int) + 1, c)] := by
  unfold pathR
  rw [List.length_append, show cs.length + [c].length = cs.length + 1 from rfl, List.range_succ, List.map_append]
  congr 1
  · refine List.map_congr_left fun i hi => ?_
    have := List.mem_range.1 hi
    rw [List.getD_eq_getElem?_getD, List.getD_eq_getElem?_getD, List.getElem?_append_left this]
  · simp
/-- Valid costs. -/
def CsOk (cs : List Int) : Prop := cs.length ≤ 7 ∧ ∀ c ∈ cs, 1 ≤ c ∧ c ≤ 50
section
variable {cs : List Int}
theorem CsOk.get (h : CsOk cs) {i : Nat} (hi : i < cs.length) : 1 ≤ cs.getD i 0 ∧ cs.getD i 0 ≤ 50 := by
  rw [List.getD_eq_getElem?_getD, List.getElem?_eq_getElem hi]
  exact h.2 _ (List.getElem_mem hi)
theorem CsOk.valid (h : CsOk cs) : mapOk ((cs.length + 1 : Nat) : Int) (pathR cs) = true := by
  refine mapOk_iff.2 ⟨by have := h.1; omega, by rw [pathR_length]; have := h.1; omega, fun r hr => ?_⟩
  obtain ⟨i, hi, rfl⟩ := List.mem_map.1 hr
  have hi' := List.mem_range.1 hi
  have := h.get hi'
  refine badR_no.2 ⟨?_, ?_, ?_, ?_⟩ <;> simp only <;> omega
theorem sumS_mono (h : CsOk cs) : ∀ b a, a ≤ b → b ≤ cs.length → sumS cs a ≤ sumS cs b
  | 0, a, ha, _ => by
    obtain rfl : a = 0 := by omega
    exact Int.le_refl _
  | b + 1, a, ha, hb => by
    by_cases e : a = b + 1
    · rw [e]; exact Int.le_refl _
    · have := sumS_mono h b a (by omega) (by omega)
      have := h.get (i := b) (by omega)
      show sumS cs a ≤ sumS cs b + cs.getD b 0
      omega
theorem sumS_bd (h : CsOk cs) : ∀ v, v ≤ cs.length → 0 ≤ sumS cs v ∧ sumS cs v ≤ 50 * v
  | 0, _ => by simp [sumS]
  | v + 1, hv => by
    have := sumS_bd h v (by omega)
    have := h.get (i := v) (by omega)
    show 0 ≤ sumS cs v + cs.getD v 0 ∧ sumS cs v + cs.getD v 0 ≤ _
    push_cast
    omega
/-- The parts when the first k roads have been joined. -/
def pk (k : Nat) : List Int := (List.range 8).map fun j => if j ≤ k then 0 else (j : Int)
theorem pk_zero : pk 0 = p8 := by decide
theorem pk_all : ∀ k : Fin 7, pjoinL (pk k.val) k.val (k.val + 1) = pk (k.val + 1) ∧ pjoinL (pk k.val) k.val (k.val + 1) ≠ pk k.val ∧ (pk k.val).getD k.val 0 ≠ (pk k.val).getD (k.val + 1) 0 := by decide +kernel
theorem pk_step {k : Nat} (hk : k < 7) : pjoinL (pk k) k (k + 1) = pk (k + 1) ∧ pjoinL (pk k) k (k + 1) ≠ pk k ∧ (pk k).getD k 0 ≠ (pk k).getD (k + 1) 0 := pk_all ⟨k, hk⟩
theorem pk_get {k j : Nat} (hj : j < 8) : (pk k).getD j 0 = if j ≤ k then 0 else (j : Int) := by
  unfold pk
  rw [List.getD_eq_getElem?_getD, List.getElem?_map, List.getElem?_range hj]; rfl
/-- Whether all stops of a set lie below M. -/
def upM (s M : Nat) : Prop := ∀ i, s.testBit i = true → i ≤ M
theorem conn_pk {s M : Nat} (_hM : M ≤ 7) (hs : 1 ≤ s ∧ s < 256) (h : upM s M) : connB (pk M) s = true := by
  unfold connB
  refine List.all_eq_true.2 fun i hi => ?_
  have hi8 := List.mem_range.1 hi
  unfold conB
  cases hb : s.testBit i with
  | false => rfl
  | true =>
    obtain ⟨_, _, _, _, hl8, hlb⟩ := tzI_ok hs
    have h1 := h i hb
    have h2 := h _ hlb
    rw [pk_get hi8, pk_get hl8, if_pos h1, if_pos h2]
    rfl
theorem reP_path (h : CsOk cs) : ∀ k, k ≤ cs.length → reP ((pathR cs).take k) = pk k
  | 0, _ => pk_zero.symm
  | k + 1, hk => by
    rw [reP_take (pathR_get (by omega)), reP_path h k (by omega)]
    have e1 : ((k : Int)).toNat = k := by simp
    have e2 : ((k : Int) + 1).toNat = k + 1 := by omega
    simp only [e1, e2]
    exact (pk_step (by have := h.1; omega)).1
theorem reach_path (h : CsOk cs) {s : Nat} (hs : 1 ≤ s ∧ s < 2 ^ (cs.length + 1)) : connB (reP (pathR cs)) s = true := by
  have e := reP_path h cs.length (Nat.le_refl _)
  rw [List.take_of_length_le (by rw [pathR_length]; exact Nat.le_refl _)] at e
  rw [e]
  have hl := h.1
  refine conn_pk hl ⟨hs.1, Nat.lt_of_lt_of_le hs.2 (Nat.pow_le_pow_right (n := 2) (by omega) (show cs.length + 1 ≤ 8 by omega))⟩ fun i hi => ?_
  rcases Nat.lt_or_ge i (cs.length + 1) with h2 | h2
  · omega
  · rw [Nat.testBit_lt_two_pow (Nat.lt_of_lt_of_le hs.2 (Nat.pow_le_pow_right (by omega) h2))] at hi
    cases hi
/-- The first roads, as a tree. -/
def firstL (k : Nat) : List Int := (List.range k).map Int.ofNat
theorem firstL_length (k : Nat) : (firstL k).length = k := by simp [firstL]
theorem firstL_get {k j : Nat} (h : j < k) : (firstL k).getD j 0 = (j : Int) := by
  unfold firstL
  rw [List.getD_eq_getElem?_getD, List.getElem?_map, List.getElem?_range h]; rfl
theorem firstL_snoc (k : Nat) : firstL k ++ [(k : Int)] = firstL (k + 1) := by simp [firstL, List.range_succ]
theorem trTo_path (h : CsOk cs) {s M : Nat} (hM : M ≤ cs.length) (hsM : upM s M) : ∀ k, k ≤ M → ∃ t, trTo (pathR cs) s (firstL M) k = some ⟨pk k, sumS cs k, t⟩ ∧ upM t M ∧ s ≤ t
  | 0, _ => ⟨s, by show some _ = some _; rw [pk_zero]; rfl, hsM, Nat.le_refl _⟩
  | k + 1, hk => by
    obtain ⟨t, h1, h2, h3⟩ := trTo_path h hM hsM k (by omega)
    have hk7 : k < 7 := by have := h.1; omega
    have e1 : ((k : Int)).toNat = k := by simp
    have e2 : ((k : Int) + 1).toNat = k + 1 := by omega
    refine ⟨t ||| (2 ^ k ||| 2 ^ (k + 1)), ?_, fun i hi => ?_, Nat.le_trans h3 Nat.left_le_or⟩
    · show (trTo (pathR cs) s (firstL M) k).bind (trStep (pathR cs) (firstL M) k) = _
      rw [h1]
      show trStep (pathR cs) (firstL M) k _ = _
      unfold trStep
      rw [firstL_get (by omega), pathR_rd (by omega), if_neg, if_neg]
      · simp only [e1, e2]
        rw [(pk_step hk7).1]; rfl
      · simp only [e1, e2]
        exact (pk_step hk7).2.2
      · rintro (h4 | h4 | ⟨h4, h5⟩)
        · omega
        · rw [pathR_length] at h4; omega
        · rw [firstL_get (by omega)] at h5; omega
    · rw [Nat.testBit_or, Nat.testBit_or, Bool.or_eq_true, Bool.or_eq_true] at hi
      rcases hi with hi | hi | hi
      · exact h2 i hi
      · rw [Nat.testBit_two_pow] at hi; have := of_decide_eq_true hi; omega
      · rw [Nat.testBit_two_pow] at hi; have := of_decide_eq_true hi; omega
theorem tree_path (h : CsOk cs) {s M : Nat} (hM : M ≤ cs.length) (hs : 1 ≤ s) (hsM : upM s M) : treeF (pathR cs) s (firstL M) = (sumS cs M, true) := by
  obtain ⟨t, h1, h2, h3⟩ := trTo_path h hM hsM M (Nat.le_refl _)
  unfold treeF
  rw [firstL_length, h1]
  have hl := h.1
  have ht : t < 256 := by
    rcases Nat.lt_or_ge t 256 with h4 | h4
    · exact h4
    · exfalso
      obtain ⟨i, hi, hb⟩ := Nat.exists_ge_and_testBit_of_ge_two_pow (n := 8) h4
      have := h2 i hb
      omega
  show (if connB (pk M) t = true then (sumS cs M, true) else (0, false)) = _
  rw [if_pos (conn_pk (by omega) ⟨by omega, ht⟩ h2)]
theorem grow_path (h : CsOk cs) {s M : Nat} (hM : M ≤ cs.length) (hs : 1 ≤ s) (hsM : upM s M) : ∀ (r j f : Nat), j + r = M → r + 1 ≤ f → (growF (pathR cs) s (sumS cs M) M f j (sumS cs M - sumS cs j) (pk j) (firstL j)).isSome = true
  | _, _, 0, _, hf => by omega
  | 0, j, f + 1, hj, _ => by
    obtain rfl : j = M := by omega
    rw [growF, if_pos (firstL_length _), tree_path h hM hs hsM]
    simp
  | r + 1, j, f + 1, hj, hf => by
    have hj7 : j < 7 := by have := h.1; omega
    rw [growF, if_neg (by rw [firstL_length]; omega)]
    have ih := grow_path h hM hs hsM r (j + 1) f (by omega) (by omega)
    have e1 : ((j : Int)).toNat = j := by simp
    have e2 : ((j : Int) + 1).toNat = j + 1 := by omega
    rw [List.findSome?_isSome_iff]
    refine ⟨j, List.mem_range.2 (by rw [pathR_length]; omega), ?_⟩
    rw [pathR_rd (by omega)]
    simp only [e1, e2]
    rw [if_neg, (pk_step hj7).1, firstL_snoc]
    · have e3 : sumS cs M - sumS cs j - cs.getD j 0 = sumS cs M - sumS cs (j + 1) := by show _ = sumS cs M - (sumS cs j + cs.getD j 0); omega
      rw [e3]
      exact ih
    · rintro (h4 | h4 | h4)
      · omega
      · exact (pk_step hj7).2.1 h4
      · have := sumS_mono h M (j + 1) (by omega) hM
        have e4 : sumS cs (j + 1) = sumS cs j + cs.getD j 0 := rfl
        omega
theorem fir_path (h : CsOk cs) {s M : Nat} (hM : M ≤ cs.length) (hs : 1 ≤ s) (hsM : upM s M) : (growF (pathR cs) s (sumS cs M) M ((pathR cs).length + 1) 0 (sumS cs M) p8 []).isSome = true := by
  have := grow_path h hM hs hsM M 0 ((pathR cs).length + 1) (by omega) (by rw [pathR_length]; omega)
  rw [show sumS cs M - sumS cs 0 = sumS cs M by show _ - 0 = _; omega, pk_zero] at this
  exact this
end

/- Distances where all stops lie on one road: plain Lean. -/

def dS (cs : List Int) (x y : Nat) : Int := if x ≤ y then sumS cs y - sumS cs x else sumS cs x - sumS cs y
theorem cMin_le (x y : Int) : cMin x y ≤ x ∧ cMin x y ≤ y := by unfold cMin; split <;> omega
theorem le_cMin {z x y : Int} (h1 : z ≤ x) (h2 : z ≤ y) : z ≤ cMin x y := by unfold cMin; split <;> omega
theorem updI_le {f : Nat → Nat → Int} {i j : Nat} {v : Int} (h : v ≤ f i j) (x y : Nat) : updI f i j v x y ≤ f x y := by
  unfold updI
  split
  · rename_i h2; rw [h2.1, h2.2]; exact h
  · exact Int.le_refl _
theorem fwS_le (f : Nat → Nat → Int) (k i j x y : Nat) : fwS f k i j x y ≤ f x y := updI_le (cMin_le _ _).1 x y
theorem fwJ_le (f : Nat → Nat → Int) (k i x y : Nat) : ∀ j, fwJ f k i j x y ≤ f x y
  | 0 => Int.le_refl _
  | j + 1 => Int.le_trans (fwS_le _ _ _ _ x y) (fwJ_le f k i x y j)
theorem fwI_le (f : Nat → Nat → Int) (N k x y : Nat) : ∀ i, fwI f N k i x y ≤ f x y
  | 0 => Int.le_refl _
  | i + 1 => Int.le_trans (fwJ_le _ _ _ x y N) (fwI_le f N k x y i)
theorem fwJ_tri (f : Nat → Nat → Int) (k i y : Nat) : ∀ j, y < j → fwJ f k i j i y ≤ f i k + f k y
  | 0, h => by omega
  | j + 1, h => by
    by_cases e : y = j
    · subst e
      show fwS (fwJ f k i y) k i y i y ≤ _
      unfold fwS updI
      rw [if_pos ⟨rfl, rfl⟩]
      have h1 := fwJ_le f k i i k y
      have h2 := fwJ_le f k i k y y
      have := (cMin_le (fwJ f k i y i y) (fwJ f k i y i k + fwJ f k i y k y)).2
      omega
    · exact Int.le_trans (fwS_le _ _ _ _ i y) (fwJ_tri f k i y j (by omega))
theorem fwI_tri (f : Nat → Nat → Int) (N k x y : Nat) (hy : y < N) : ∀ i, x < i → fwI f N k i x y ≤ f x k + f k y
  | 0, h => by omega
  | i + 1, h => by
    by_cases e : x = i
    · subst e
      have h1 := fwJ_tri (fwI f N k x) k x y N hy
      have h2 := fwI_le f N k x k x
      have h3 := fwI_le f N k k y x
      show fwJ (fwI f N k x) k x N x y ≤ _
      omega
    · exact Int.le_trans (fwJ_le _ _ _ x y N) (fwI_tri f N k x y hy i (by omega))
section
variable {cs : List Int}
theorem dS_tri (h : CsOk cs) {x y z : Nat} (hx : x ≤ cs.length) (hy : y ≤ cs.length) (hz : z ≤ cs.length) : dS cs x y ≤ dS cs x z + dS cs z y := by
  unfold dS
  have a1 := fun h1 : x ≤ y => sumS_mono h y x h1 hy
  have a2 := fun h1 : y ≤ x => sumS_mono h x y h1 hx
  have a3 := fun h1 : x ≤ z => sumS_mono h z x h1 hz
  have a4 := fun h1 : z ≤ x => sumS_mono h x z h1 hx
  have a5 := fun h1 : z ≤ y => sumS_mono h y z h1 hy
  have a6 := fun h1 : y ≤ z => sumS_mono h z y h1 hz
  split <;> split <;> split <;> omega
/-- Nothing is nearer than along the road. -/
def LoD (cs : List Int) (f : Nat → Nat → Int) : Prop := ∀ x y, x ≤ cs.length → y ≤ cs.length → dS cs x y ≤ f x y
theorem LoD.fwS {f : Nat → Nat → Int} (hc : CsOk cs) (h : LoD cs f) {k i j : Nat} (hk : k ≤ cs.length) : LoD cs (fwS f k i j) := fun x y hx hy => by
  unfold Go.Proofs.YtifmekijdepokaaDoor.fwS updI
  split
  · rename_i h2
    obtain ⟨rfl, rfl⟩ := h2
    refine le_cMin (h x y hx hy) ?_
    have h1 := h x k hx hk
    have h3 := h k y hk hy
    have h4 := dS_tri hc hx hy hk
    omega
  · exact h x y hx hy
theorem LoD.fwJ {f : Nat → Nat → Int} (hc : CsOk cs) (h : LoD cs f) {k i : Nat} (hk : k ≤ cs.length) : ∀ j, LoD cs (fwJ f k i j)
  | 0 => h
  | j + 1 => (LoD.fwJ hc h hk j).fwS hc hk
theorem LoD.fwI {f : Nat → Nat → Int} (hc : CsOk cs) (h : LoD cs f) {N k : Nat} (hk : k ≤ cs.length) : ∀ i, LoD cs (fwI f N k i)
  | 0 => h
  | i + 1 => (LoD.fwI hc h hk i).fwJ hc hk N
theorem LoD.fwK {f : Nat → Nat → Int} (hc : CsOk cs) (h : LoD cs f) {N : Nat} : ∀ k, k ≤ cs.length + 1 → LoD cs (fwK f N k)
  | 0, _ => h
  | k + 1, hk => (LoD.fwK hc h k (by omega)).fwI hc (by omega) N
theorem cost_path (hc : CsOk cs) : ∀ k, k ≤ cs.length → LoD cs (costF ((pathR cs).take k)) ∧ ∀ i, i < k → costF ((pathR cs).take k) i (i + 1) ≤ cs.getD i 0 ∧ costF ((pathR cs).take k) (i + 1) i ≤ cs.getD i 0
  | 0, _ => ⟨fun x y hx hy => by
      show dS cs x y ≤ cost0 x y
      unfold cost0 dS far
      have := sumS_bd hc x hx
      have := sumS_bd hc y hy
      have := hc.1
      by_cases e : x = y
      · subst e; simp
      · rw [if_neg e]; split <;> omega, fun i hi => by omega⟩
  | k + 1, hk => by
    obtain ⟨h1, h2⟩ := cost_path hc k (by omega)
    rw [costF_take (pathR_get (by omega))]
    have e1 : ((k : Int)).toNat = k := by simp
    have e2 : ((k : Int) + 1).toNat = k + 1 := by omega
    unfold cstep
    simp only [e1, e2]
    generalize costF ((pathR cs).take k) = f at *
    have hd1 : dS cs k (k + 1) = cs.getD k 0 := by unfold dS; rw [if_pos (by omega)]; show sumS cs k + cs.getD k 0 - sumS cs k = _; omega
    have hd2 : dS cs (k + 1) k = cs.getD k 0 := by unfold dS; rw [if_neg (by omega)]; show sumS cs k + cs.getD k 0 - sumS cs k = _; omega
    have hlo : cs.getD k 0 ≤ cMin (f k (k + 1)) (cs.getD k 0) := le_cMin (by rw [← hd1]; exact h1 k (k + 1) (by omega) hk) (Int.le_refl _)
    have hup := (cMin_le (f k (k + 1)) (cs.getD k 0)).2
    refine ⟨fun x y hx hy => ?_, fun i hi => ?_⟩
    · unfold updI
      split
      · rename_i h3; obtain ⟨rfl, rfl⟩ := h3; rw [hd2]; exact hlo
      · split
        · rename_i h3; obtain ⟨rfl, rfl⟩ := h3; rw [hd1]; exact hlo
        · exact h1 x y hx hy
    · unfold updI
      by_cases e : i = k
      · subst e
        refine ⟨?_, ?_⟩
        · rw [if_neg (by omega), if_pos ⟨rfl, rfl⟩]; exact hup
        · rw [if_pos ⟨rfl, rfl⟩]; exact hup
      · obtain ⟨h3, h4⟩ := h2 i (by omega)
        refine ⟨?_, ?_⟩
        · rw [if_neg (by omega), if_neg (by omega)]; exact h3
        · rw [if_neg (by omega), if_neg (by omega)]; exact h4
theorem cost_diag (hc : CsOk cs) (x : Nat) : ∀ k, k ≤ cs.length → costF ((pathR cs).take k) x x = 0
  | 0, _ => by show cost0 x x = 0; unfold cost0; rw [if_pos rfl]
  | k + 1, hk => by
    rw [costF_take (pathR_get (by omega))]
    have e1 : ((k : Int)).toNat = k := by simp
    have e2 : ((k : Int) + 1).toNat = k + 1 := by omega
    unfold cstep updI
    simp only [e1, e2]
    rw [if_neg (by omega), if_neg (by omega)]
    exact cost_diag hc x k (by omega)
/-- What k rounds have found. -/
def UpD (cs : List Int) (k : Nat) (f : Nat → Nat → Int) : Prop := ∀ i j, i ≤ j → j ≤ cs.length → (j ≤ i + 1 ∨ j ≤ k) → f i j ≤ sumS cs j - sumS cs i ∧ f j i ≤ sumS cs j - sumS cs i
theorem UpD.step {k : Nat} {f : Nat → Nat → Int} (h : UpD cs k f) {N : Nat} (hN : cs.length < N) : UpD cs (k + 1) (fwI f N k N) := fun i j hij hj hc2 => by
  have m1 := fwI_le f N k i j N
  have m2 := fwI_le f N k j i N
  by_cases h1 : j ≤ i + 1 ∨ j ≤ k
  · obtain ⟨h2, h3⟩ := h i j hij hj h1
    omega
  · obtain rfl : j = k + 1 := by omega
    obtain ⟨h2, h3⟩ := h i k (by omega) (by omega) (.inr (Nat.le_refl _))
    obtain ⟨h4, h5⟩ := h k (k + 1) (by omega) hj (.inl (Nat.le_refl _))
    have t1 := fwI_tri f N k i (k + 1) (by omega) N (by omega)
    have t2 := fwI_tri f N k (k + 1) i (by omega) N (by omega)
    omega
theorem UpD.fwK {f : Nat → Nat → Int} (h : UpD cs 0 f) {N : Nat} (hN : cs.length < N) : ∀ k, UpD cs k (fwK f N k)
  | 0 => h
  | k + 1 => (UpD.fwK h hN k).step hN
theorem dist_path (hc : CsOk cs) {x y : Nat} (hx : x ≤ cs.length) (hy : y ≤ cs.length) : distF (pathR cs) (cs.length + 1) x y = dS cs x y := by
  obtain ⟨h1, h2⟩ := cost_path hc cs.length (Nat.le_refl _)
  have h3 := fun x => cost_diag hc x cs.length (Nat.le_refl _)
  rw [List.take_of_length_le (by rw [pathR_length]; exact Nat.le_refl _)] at h1 h2 h3
  have hU0 : UpD cs 0 (costF (pathR cs)) := fun i j hij hj hh => by
    by_cases e : i = j
    · subst e
      have := h3 i
      omega
    · obtain rfl : j = i + 1 := by omega
      have := h2 i (by omega)
      have e1 : sumS cs (i + 1) = sumS cs i + cs.getD i 0 := rfl
      omega
  have hU := hU0.fwK (N := cs.length + 1) (by omega) (cs.length + 1)
  have hL := (h1.fwK hc (N := cs.length + 1) (cs.length + 1) (Nat.le_refl _)) x y hx hy
  unfold distF
  unfold dS at hL ⊢
  by_cases e : x ≤ y
  · rw [if_pos e] at hL ⊢
    have := (hU x y e hy (.inr (by omega))).1
    omega
  · rw [if_neg e] at hL ⊢
    have := (hU y x (by omega) hx (.inr (by omega))).2
    omega
end

/- Contracts of slices.Min and slices.Max over ints. -/

set_option maxHeartbeats 400000 in
theorem min_any (A : Option Addr) (n cap : Nat) (xs : List Int) (w : World) (hl : xs.length = n) (hp : 0 < n) (hm : n ≤ 9223372036854775807) (h : Ints w A xs) :
    Calls Tryd.prog 46 #[.slice A n cap] w fun e w' => e = .returned (.int .i64 (lmin xs)) ∧ w = w' := by
  obtain ⟨ad, rfl, hb, hc⟩ := h.some_ (by omega)
  obtain ⟨x0, hx0⟩ : ∃ x, xs[0]? = some x := ⟨_, List.getElem?_eq_getElem (by omega)⟩
  have c0 : w.cell? ad = some (.int .i64 x0) := hc 0 x0 hx0
  have e0 : lmin (xs.take 1) = x0 := by rw [take_succ' hx0]; simp [lmin]
  have HE := Lib.hid e0
  have HC := Lib.hid hc
  have HL := Lib.hid hl
  have HX0 := Lib.hid hx0
  clear hc hl h hb e0 hx0
  go_enter Tryd.func46, Tryd.ntmps46
  go_wp2
  go_loop [3, 4] (fun m i => ∃ k : Nat, 1 ≤ k ∧ k ≤ n ∧ i = .int .i64 k ∧ m = .int .i64 (lmin (xs.take k))) (fun _ i => n - (intOf i).toNat)
  case atStart => exact ⟨1, by omega, by omega, rfl, by rw [HE.out]⟩
  case round =>
    obtain ⟨k, hk1, hk, rfl, rfl⟩ := hrel
    by_cases hlt : k < n
    · obtain ⟨x, hx⟩ : ∃ x, xs[k]? = some x := ⟨_, List.getElem?_eq_getElem (by rw [HL.out]; exact hlt)⟩
      have hcell := HC.out k x hx
      have HT := Lib.hid (lmin_take hx (by omega))
      have HX := Lib.hid hx
      clear hx
      go_wp2
      go_round
      case rel => exact ⟨k + 1, by omega, by omega, by go_num, val_int (by rw [HT.out]; split <;> omega)⟩
      case measure => simp [intOf]; omega
    · have HT : Hid (lmin (xs.take k) = lmin xs) := Lib.hid (by rw [List.take_of_length_le (by rw [HL.out]; omega)])
      go_wp2
      go_ret
      exact ⟨ret_int HT.out, rfl⟩

set_option maxHeartbeats 400000 in
theorem max_any (A : Option Addr) (n cap : Nat) (xs : List Int) (w : World) (hl : xs.length = n) (hp : 0 < n) (hm : n ≤ 9223372036854775807) (h : Ints w A xs) :
    Calls Tryd.prog 47 #[.slice A n cap] w fun e w' => e = .returned (.int .i64 (lmax xs)) ∧ w = w' := by
  obtain ⟨ad, rfl, hb, hc⟩ := h.some_ (by omega)
  obtain ⟨x0, hx0⟩ : ∃ x, xs[0]? = some x := ⟨_, List.getElem?_eq_getElem (by omega)⟩
  have c0 : w.cell? ad = some (.int .i64 x0) := hc 0 x0 hx0
  have e0 : lmax (xs.take 1) = x0 := by rw [take_succ' hx0]; simp [lmax]
  have HE := Lib.hid e0
  have HC := Lib.hid hc
  have HL := Lib.hid hl
  have HX0 := Lib.hid hx0
  clear hc hl h hb e0 hx0
  go_enter Tryd.func47, Tryd.ntmps47
  go_wp2
  go_loop [3, 4] (fun m i => ∃ k : Nat, 1 ≤ k ∧ k ≤ n ∧ i = .int .i64 k ∧ m = .int .i64 (lmax (xs.take k))) (fun _ i => n - (intOf i).toNat)
  case atStart => exact ⟨1, by omega, by omega, rfl, by rw [HE.out]⟩
  case round =>
    obtain ⟨k, hk1, hk, rfl, rfl⟩ := hrel
    by_cases hlt : k < n
    · obtain ⟨x, hx⟩ : ∃ x, xs[k]? = some x := ⟨_, List.getElem?_eq_getElem (by rw [HL.out]; exact hlt)⟩
      have hcell := HC.out k x hx
      have HT := Lib.hid (lmax_take hx (by omega))
      have HX := Lib.hid hx
      clear hx
      go_wp2
      go_round
      case rel => exact ⟨k + 1, by omega, by omega, by go_num, val_int (by rw [HT.out]; split <;> omega)⟩
      case measure => simp [intOf]; omega
    · have HT : Hid (lmax (xs.take k) = lmax xs) := Lib.hid (by rw [List.take_of_length_le (by rw [HL.out]; omega)])
      go_wp2
      go_ret
      exact ⟨ret_int HT.out, rfl⟩

/- The memory of steiner. -/

/-- make([][]int, n). -/
theorem make_intssR (n : Nat) (hn : n ≤ 1000000) (w : World) : (Instr.makeSlice 47 (.int .i64 n) (.int .i64 n)).run Tryd.prog w = .ok (.slice (some ⟨w.heap.size, 0, none⟩) n n) (w.alloc (.cells (Array.replicate n (Value.slice none 0 0)) 22)) := by
  obtain ⟨i0, hi, hz0, hz1, hz2⟩ := info_parts info_ints
  have hr := run_make (P := Tryd.prog) w 47 22 i0 (.slice none 0 0) Tryd.underlying47 hi hz0 .i64 .i64 n n (by omega) (by omega) (by rw [hz2]; omega) (by omega)
  simp only [Int.toNat_natCast, hz1] at hr
  rw [hr]
  have e : madeCells (Value.slice none 0 0).cells (n * 1) = Array.replicate n (Value.slice none 0 0) := by
    apply Array.ext'
    show (madeCells #[Value.slice none 0 0] (n * 1)).toList = _
    rw [toList_madeCells_one]; simp
  rw [e]
/-- The table of sets while it is filled: k rows. -/
structure SteM (w3 w : World) (gL P k N : Nat) (R : Nat → Nat) (f : Nat → Nat → Int) : Prop where
  mx : Mx w gL k N R f
  ge : ∀ s, s < k → w3.heap.size ≤ R s
  blk : ∃ cs, Blk w gL 22 cs ∧ cs.size = P
  kp : Kept w3.heap.size [gL] w3 w
  gl : gL < w3.heap.size
section
variable {w3 w w' : World} {gL P k N : Nat} {R : Nat → Nat} {f f' : Nat → Nat → Int}
theorem SteM.drewN (h : SteM w3 w gL P k N R f) (n : Nat) : SteM w3 (w.drewN n) gL P k N R f := ⟨h.mx.drewN n, h.ge, h.blk, h.kp.drewN n, h.gl⟩
theorem SteM.congr (h : SteM w3 w gL P k N R f) (hf : ∀ i j, i < k → j < N → f i j = f' i j) : SteM w3 w gL P k N R f' := ⟨h.mx.congr hf, h.ge, h.blk, h.kp, h.gl⟩
theorem SteM.next (h : SteM w3 w gL P k N R f) (hb : Below w.heap.size w w') : SteM w3 w' gL P k N R f := by
  obtain ⟨cs, h1, h2⟩ := h.blk
  exact ⟨h.mx.next hb, h.ge, ⟨cs, h1.below hb h1.lt, h2⟩, h.kp.trans (Kept.of_below (hb.mono h.kp.size) _), h.gl⟩
theorem SteM.set (h : SteM w3 w gL P k N R f) {i : Nat} (hi : i < k) (j : Nat) (v : Int) : SteM w3 (w.setCell ⟨R i, j, none⟩ (.int .i64 v)) gL P k N R (updI f i j v) := by
  obtain ⟨cs, h1, h2⟩ := h.blk
  exact ⟨h.mx.set hi j v, h.ge, ⟨cs, h1.far (h.mx.ne i hi).symm _, h2⟩, h.kp.setCell (.inr (h.ge i hi)) _, h.gl⟩
/-- One row more. -/
theorem SteM.push (h : SteM w3 w gL P k N R f) {g : Nat} {z : Int} (hg : Blk w g 3 (arr (List.replicate N z))) (hge : w3.heap.size ≤ g) (hne : ∀ s, s < k → R s ≠ g) (hk : k < P) :
    SteM w3 (w.setCell ⟨gL, k, none⟩ (.slice (some ⟨g, 0, none⟩) N N)) gL P (k + 1) N (fun s => if s = k then g else R s) (fun s v => if s = k then z else f s v) := by
  obtain ⟨cs, h1, h2⟩ := h.blk
  have hgl := h.gl
  have hgg : g ≠ gL := by omega
  have hset := h1.set_ k (.slice (some ⟨g, 0, none⟩) N N)
  refine ⟨⟨fun i hi => ?_, fun i hi => ?_, fun a b ha hb e => ?_, fun i hi => ?_, by simpa [World.setCell] using h.mx.lt⟩, fun s hs => ?_, ⟨_, hset, by simpa using h2⟩, h.kp.setCell (.inl (by simp)) _, hgl⟩
  · by_cases e : i = k
    · subst e
      rw [hset.cell, Array.getElem?_setIfInBounds_self_of_lt (by omega)]
      simp
    · rw [World.cell?_setCell_other _ _ _ _ (by intro e2; injection e2 with _ e2; omega)]
      simp only [e, if_false]
      exact h.mx.rows i (by omega)
  · by_cases e : i = k
    · subst e
      have e1 : rowM (fun s v => if s = i then z else f s v) i N = List.replicate N z := by
        apply List.ext_getElem?
        intro t
        by_cases ht : t < N
        · rw [rowM_get ht, List.getElem?_replicate, if_pos ht]; simp
        · rw [List.getElem?_eq_none (by rw [rowM_length]; omega), List.getElem?_eq_none (by simpa using ht)]
      rw [e1]
      simp only [if_true]
      exact hg.far hgg _
    · have e1 : rowM (fun s v => if s = k then z else f s v) i N = rowM f i N := rowM_congr fun j _ => by simp [e]
      rw [e1]
      simp only [e, if_false]
      exact (h.mx.cells i (by omega)).far (h.mx.ne i (by omega)) _
  · replace e : (if a = k then g else R a) = (if b = k then g else R b) := e
    by_cases ea : a = k
    · by_cases eb : b = k
      · omega
      · rw [if_pos ea, if_neg eb] at e
        exact absurd e.symm (hne b (by omega))
    · by_cases eb : b = k
      · rw [if_neg ea, if_pos eb] at e
        exact absurd e (hne a (by omega))
      · rw [if_neg ea, if_neg eb] at e
        exact h.mx.inj a b (by omega) (by omega) e
  · show (if i = k then g else R i) ≠ gL
    split
    · exact hgg
    · exact h.mx.ne i (by omega)
  · show w3.heap.size ≤ (if s = k then g else R s)
    split
    · exact hge
    · exact h.ge s (by omega)
end
theorem ints_far {w : World} {gm : Nat} {xs : List Int} (h : Ints w (some ⟨gm, 0, none⟩) xs) {p : Addr} (hp : p.block ≠ gm) (u : Value) : Ints (w.setCell p u) (some ⟨gm, 0, none⟩) xs := by
  intro i v hv
  obtain ⟨ad, hA, hc⟩ := h i v hv
  injection hA with hA
  subst hA
  refine ⟨_, rfl, ?_⟩
  rw [World.cell?_setCell_other _ _ _ _ (by
    intro e
    apply hp
    rw [e]
    unfold Addr.add
    split <;> rfl)]
  exact hc
theorem dif_self_lt {s p : Nat} (hp : p ≠ 0) (hs : p &&& s = p) : dif s p < s := by
  have h1 : dif s p ≤ s := by
    have e : dif s p &&& s = dif s p := by
      apply Nat.eq_of_testBit_eq
      intro i
      rw [Nat.testBit_and, dif_bit]
      cases s.testBit i <;> simp
    rw [← e]
    exact Nat.and_le_right
  refine Nat.lt_of_le_of_ne h1 fun e => hp ?_
  apply Nat.eq_of_testBit_eq
  intro i
  have h2 := congrArg (fun z => z.testBit i) e
  have h3 := congrArg (fun z => z.testBit i) hs
  simp only [dif_bit, Nat.testBit_and] at h2 h3
  rw [Nat.zero_testBit]
  cases hq : p.testBit i with
  | false => rfl
  | true =>
    rw [hq] at h2 h3
    simp at h2 h3
    rw [h3] at h2
    cases h2

/- Contract: steiner of package route. -/

/-- The least cost of a tree for stops. -/
def steF (rs : List Rd) (N stops : Nat) : Int := lmin (rowM (stT (distF rs N) N stops (2 ^ N)) stops N)
set_option maxRecDepth 100000 in
set_option maxHeartbeats 4000000 in
theorem rsteiner_any (N : Nat) (R : Option Addr) (n c : Nat) (rs : List Rd) (s : Nat) (w : World) (hl : rs.length = n) (hv : mapOk (N : Int) rs = true) (hR : Rds w R rs) (hs : 1 ≤ s ∧ s < 2 ^ N) (ht : TabW w) (h2 : 2 ≤ w.heap.size) :
    Calls Tryd.prog 45 #[mapV N R n c, .int .i64 s] w fun e w' => e = .returned (.int .i64 (steF rs N s)) ∧ Below w.heap.size w w' := by
  obtain ⟨w1, hw1⟩ : ∃ w1, w1 = w.alloc (.cells #[.int .i64 N, .slice R n c] 26) := ⟨_, rfl⟩
  have hB : Blk w1 w.heap.size 26 #[.int .i64 N, .slice R n c] := by rw [hw1]; exact Blk.new _ _ _ rfl
  have hb1 : Below w.heap.size w w1 := by rw [hw1]; exact (Below.refl _ _).alloc (Nat.le_refl _) _
  have hN8 := (mapOk_iff.1 hv).1
  have hN8' : 1 ≤ N ∧ N ≤ 8 := by omega
  obtain ⟨P, hP⟩ : ∃ P, P = 2 ^ N := ⟨_, rfl⟩
  have hP256 : P ≤ 256 := by rw [hP]; exact Nat.pow_le_pow_right (n := 2) (by omega) hN8'.2
  have hPw : IntKind.i64.wrap ((2 : Int) ^ N) = (P : Int) := by rw [hP]; exact pow_wrap N (by omega)
  have hPw2 : wrap64 ((2 : Int) ^ N) = (P : Int) := by rw [← wrapEq]; exact hPw
  rw [← hP] at hs
  have HC := Lib.hid (rdists_any N R n c rs w1 hl hv (hR.below hb1))
  obtain ⟨D, hD⟩ : ∃ D, D = distF rs N := ⟨_, rfl⟩
  have hbd : Bd D := by rw [hD]; exact Bd.distF hv
  rw [← hD] at HC
  have H := Lib.hid (And.intro hb1 (And.intro hB (And.intro ht (And.intro hbd (And.intro hD hP)))))
  obtain ⟨m1, m2, _, _⟩ := hB.at2
  have hs1 := hb1.size
  have hBl := hB.lt
  clear hl hv hR hB hb1 ht hbd hD hP
  go_enter Tryd.func45, Tryd.ntmps45
  go_upto_region 1 with fail
  rw [← hw1]
  clear hw1
  go_wp2_with fail
  refine HC.out.mono ?_
  rintro e w2 ⟨gD, cap, RD, rfl, hc1, hc2, hMx, ⟨hg1, hg2⟩, hb2⟩
  have hB2 := H.out.2.1.below hb2 hBl
  obtain ⟨n1, n2, _, _⟩ := hB2.at2
  have hDl := hMx.lt
  have hRDl : ∀ i, i < N → RD i < w2.heap.size := fun i hi => (hMx.cells i hi).lt
  have hw2s := hb2.size
  have HD := Lib.hid (And.intro hMx (And.intro hB2 (And.intro hRDl (And.intro (H.out.1.trans (hb2.mono hs1)) (H.out.2.2.1.below (H.out.1.trans (hb2.mono hs1)) h2)))))
  have hm := make_intssR P (by omega)
  clear hMx hg1 hg2 hb2 m1 m2 HC hB2 hRDl
  obtain ⟨w3, hw3⟩ : ∃ w3, w3 = w2.alloc (.cells (Array.replicate P (.slice none 0 0)) 22) := ⟨_, rfl⟩
  obtain ⟨gL, hgL⟩ : ∃ gL, gL = w2.heap.size := ⟨_, rfl⟩
  have hb3 : Below w2.heap.size w2 w3 := by rw [hw3]; exact (Below.refl _ _).alloc (Nat.le_refl _) _
  have hs3 : w3.heap.size = gL + 1 := by rw [hw3, hgL]; simp
  have hS0 : SteM w3 w3 gL P 0 N (fun _ => 0) (stT D N s 0) := by
    refine ⟨⟨fun i hi => by omega, fun i hi => by omega, fun a b ha => by omega, fun i hi => by omega, by omega⟩, fun i hi => by omega, ⟨Array.replicate P (.slice none 0 0), ?_, by simp⟩, Kept.refl _ _ _, by omega⟩
    rw [hw3, hgL]
    exact Blk.new _ _ _ rfl
  have HG := Lib.hid hgL
  have H3 := Lib.hid (And.intro hS0 (And.intro hb3 hs3))
  go_upto_region 3 with fail
  rw [← hgL, ← hw3]
  clear hw3 hm n1 n2 hS0 hb3 hs3 hgL
  have hgl1 : gD < gL := by rw [HG.out]; exact hDl
  have hgl2 : w.heap.size < gL := by rw [HG.out]; exact HD.out.2.1.lt
  have hgl3 : ∀ i, i < N → RD i < gL := fun i hi => by rw [HG.out]; exact HD.out.2.2.1 i hi
  have hw3s : w3.heap.size = gL + 1 := H3.out.2.2
  -- what holds of any world that keeps all but the table
  have hall : ∀ wx, Kept w3.heap.size [gL] w3 wx → Mx wx gD N N RD D ∧ Blk wx w.heap.size 26 #[.int .i64 N, .slice R n c] ∧ TabW wx ∧ Below w.heap.size w wx := fun wx hk => by
    have hb3 := H3.out.2.1
    have hb23 : Below gL w2 w3 := by rw [HG.out]; exact hb3
    have hk2 : Kept gL [] w2 wx := (Kept.of_below hb23 []).trans (hk.mono (by omega) (fun x hx => by simp at hx; right; omega))
    have hbw : Below w.heap.size w wx := HD.out.2.2.2.1.trans ((hk2.below).mono (by omega))
    exact ⟨HD.out.1.kept hk2 ⟨hgl1, by simp⟩ (fun i hi => ⟨hgl3 i hi, by simp⟩), HD.out.2.1.kept hk2 hgl2 (by simp), H.out.2.2.1.below hbw h2, hbw⟩
  have HALL := Lib.hid hall
  have HG3 := Lib.hid (And.intro hgl1 (And.intro hgl2 hgl3))
  clear hall hgl3
  go_wp2_with fail
  go_loopw [21] (fun iv wx => ∃ (k : Nat) (RR : Nat → Nat), k ≤ P ∧ iv = .int .i64 k ∧ SteM w3 wx gL P k N RR (stT D N s k)) (fun iv _ => P - (intOf iv).toNat)
  case atStart => exact ⟨0, _, Nat.zero_le _, rfl, H3.out.1⟩
  case round =>
    obtain ⟨k, RR, hk, rfl, hS⟩ := hrel
    obtain ⟨wo, rfl⟩ : ∃ wo : World, wo = wr := ⟨_, rfl⟩
    have HS := Lib.hid hS
    have hos := hS.kp.size
    clear hS
    by_cases hkP : k < P
    · obtain ⟨L, hL⟩ : ∃ L, L = stT D N s k := ⟨_, rfl⟩
      have hnx : stT D N s (k + 1) = fun s' v => if s' = k then (if skipB s k then far else rowB L D N k v) else L s' v := by rw [hL]; rfl
      rw [← hL] at HS
      have hLbd : Bd L := by rw [hL]; exact H.out.2.2.2.1.stT N s k
      have HL := Lib.hid (And.intro hnx hLbd)
      clear hL hnx hLbd
      obtain ⟨_, hBm, _, _⟩ := HALL.out wo HS.out.kp
      obtain ⟨m1, _, _, _⟩ := hBm.at2
      have m3 := (hBm.alloc (.cells #[.int .i64 1048576] 3)).at2.1
      have hxB : Blk (wo.alloc (.cells #[.int .i64 1048576] 3)) wo.heap.size 3 (arr [1048576]) := Blk.new _ _ _ rfl
      have HX := Lib.hid (repeatI_any N wo.heap.size (by omega) _ hxB)
      clear hxB hBm
      go_wp2_with fail
      refine HX.out.mono ?_
      rintro e w4 ⟨g, rfl, hg, hge, hb4⟩
      have hg0 : wo.heap.size < g := by simp at hge; omega
      have hb4' : Below wo.heap.size wo w4 := ((Below.refl _ _).alloc (Nat.le_refl _) _).trans (hb4.mono (by simp))
      have hS4 := HS.out.next hb4'
      have hpush := hS4.push hg (by omega) (fun s' hs' => by have := (HS.out.mx.cells s' hs').lt; omega) hkP
      have hgL4 : w4.cell? ⟨gL, k, none⟩ = some (w4.cell? ⟨gL, k, none⟩ |>.getD (.bool false)) ∧ w4.frozen? ⟨gL, k, none⟩ = false := by
        obtain ⟨cs, h1, h2⟩ := hS4.blk
        refine ⟨?_, h1.frozen k⟩
        rw [h1.cell, Array.getElem?_eq_getElem (by omega)]; rfl
      obtain ⟨old, hold⟩ : ∃ o, o = (w4.cell? ⟨gL, k, none⟩ |>.getD (.bool false)) := ⟨_, rfl⟩
      rw [← hold] at hgL4
      obtain ⟨o1, o2⟩ := hgL4
      obtain ⟨w5, hw5⟩ : ∃ w5, w5 = w4.setCell ⟨gL, k, none⟩ (.slice (some ⟨g, 0, none⟩) N N) := ⟨_, rfl⟩
      rw [← hw5] at hpush
      obtain ⟨R1, hR1⟩ : ∃ R1 : Nat → Nat, R1 = fun s => if s = k then g else RR s := ⟨_, rfl⟩
      have hR1k : R1 k = g := by rw [hR1]; simp
      rw [← hR1] at hpush
      have H5 := Lib.hid (And.intro hpush hR1k)
      have l1 : (k : Int) < (P : Int) := by omega
      have l2 : (0 : Int) ≤ (k : Int) := by omega
      clear hS4 hpush hold hg hge hb4 hb4' m1 m3 hR1 HX hR1k
      go_upto_region 7 with fail
      rw [← hw5]
      clear hw5 o1 o2
      have hs256 : s < 256 := by omega
      have e_an := andnot_nat k s (by omega) (by omega)
      obtain ⟨q, hq⟩ : ∃ q, q = dif k s := ⟨_, rfl⟩
      rw [← hq] at e_an
      have hskT : (q ≠ 0 ∨ k = 0) → stT D N s (k + 1) = fun s' v => if s' = k then 1048576 else L s' v := fun h => by
        have e : skipB s k = true := by
          unfold skipB
          rw [← hq]
          rcases h with h | h
          · rw [decide_eq_true h]; rfl
          · rw [decide_eq_true h]; simp
        rw [HL.out.1, e]
        rfl
      have hskF : (q = 0 ∧ k ≠ 0) → stT D N s (k + 1) = fun s' v => if s' = k then rowB L D N k v else L s' v := fun h => by
        have e : skipB s k = false := by
          unfold skipB
          rw [← hq, decide_eq_false (fun h2 => h2 h.1), decide_eq_false h.2]; rfl
        rw [HL.out.1, e]
        rfl
      by_cases hsk : q ≠ 0 ∨ k = 0
      · have HT := Lib.hid (hskT hsk)
        have hcond : (((q : Int) != 0) || ((k : Int) == 0)) = true := by
          rcases hsk with h | h
          · have : ((q : Int) != 0) = true := by simp; omega
            rw [this]; rfl
          · have : ((k : Int) == 0) = true := by simp; omega
            rw [this]; simp
        obtain ⟨bq, hbq⟩ : ∃ b, b = ((q : Int) != 0) := ⟨_, rfl⟩
        obtain ⟨bk, hbk⟩ : ∃ b, b = ((k : Int) == 0) := ⟨_, rfl⟩
        rw [← hbq, ← hbk] at hcond
        have hbq' := hbq.symm
        have hbk' := hbk.symm
        clear hskT hskF hsk hq hbq hbk
        cases bq
        · have hbk2 : bk = true := by simpa using hcond
          subst hbk2
          clear hcond
          go_wp2_with fail
          go_roundw
          case rel => exact ⟨k + 1, R1, by omega, by go_num, by rw [HT.out]; exact H5.out.1⟩
          case measure => simp [intOf]; omega
        · clear hcond
          go_wp2_with fail
          go_roundw
          case rel => exact ⟨k + 1, R1, by omega, by go_num, by rw [HT.out]; exact H5.out.1⟩
          case measure => simp [intOf]; omega
      · have hq0 : q = 0 := by omega
        have hk0 : k ≠ 0 := by omega
        have HT := Lib.hid (hskF ⟨hq0, hk0⟩)
        have hb1' : ((q : Int) != 0) = false := by rw [hq0]; rfl
        have hb2' : ((k : Int) == 0) = false := by simp; omega
        have hk1 : 1 ≤ k := by omega
        clear hskT hskF hsk hq hq0 hk0
        have hS5 := H5.out.1
        obtain ⟨_, hBm, _, _⟩ := HALL.out w5 hS5.kp
        obtain ⟨m1, _, _, _⟩ := hBm.at2
        clear hS5 hBm
        go_wp2_with fail
        clear m1 hb1' e_an
        go_loopw [41] (fun iv wx => ∃ v : Nat, v ≤ N ∧ iv = .int .i64 v ∧ SteM w3 wx gL P (k + 1) N R1 (fA L k v (rowA L D k) (fun _ => 1048576))) (fun iv _ => N - (intOf iv).toNat)
        case atStart => exact ⟨0, Nat.zero_le _, rfl, by rw [← fA_zero]; exact H5.out.1⟩
        case round =>
          obtain ⟨v, hv, rfl, hSv⟩ := hrel
          obtain ⟨wv, rfl⟩ : ∃ wo : World, wo = wr := ⟨_, rfl⟩
          have HSV := Lib.hid hSv
          clear hSv
          by_cases hvN : v < N
          · -- the single one, then the parts
            have e_and := and_nat k (k - 1) (by omega) (by omega)
            have e_k1 : (k : Int) - 1 = ((k - 1 : Nat) : Int) := by omega
            have e_k2 : wrap64 ((k : Int) - 1) = ((k - 1 : Nat) : Int) := by rw [e_k1]; unfold wrap64; omega
            have e_and2 := and_nat (k - 1) k (by omega) (by omega)
            have hmv := HSV.out.mx
            obtain ⟨hDv, _, htv, _⟩ := HALL.out wv HSV.out.kp
            obtain ⟨_, _, _, _, ht8, htb⟩ := tzI_ok (s := k) ⟨hk1, by omega⟩
            obtain ⟨t, htt⟩ : ∃ t, t = lowb k := ⟨_, rfl⟩
            have htN : lowb k < N := by
              rcases Nat.lt_or_ge (lowb k) N with h | h
              · exact h
              · have : k.testBit (lowb k) = false := Nat.testBit_lt_two_pow (Nat.lt_of_lt_of_le (by rw [← H.out.2.2.2.2.2]; exact hkP) (Nat.pow_le_pow_right (by omega) h))
                rw [this] at htb; cases htb
            rw [← htt] at htN ht8
            have HTZ : Hid (∀ m : Nat, Calls Tryd.prog 66 #[.int .u64 k] (wv.drewN m) fun e w'' => e = .returned (.int .i64 t) ∧ ∃ q, w'' = wv.drewN q) := Lib.hid fun m => (tz_any k ⟨hk1, by omega⟩ (wv.drewN m) htv).mono fun e w'' ⟨h1, h2⟩ => ⟨by rw [htt]; exact h1, m, h2.symm⟩
            have x1 := hmv.rows k (by omega)
            have x2 := hmv.cell (i := k) (j := v) (by omega) hvN
            rw [fA_at] at x2
            have x3 := hmv.frozen (i := k) (by omega) v
            have x4 := hDv.rows t htN
            have x5 := hDv.cell htN hvN
            have HTV := Lib.hid (And.intro htv htt)
            have eu : IntKind.u64.wrap (k : Int) = (k : Int) := by show (k : Int) % 2 ^ 64 = k; omega
            have l3 : (k : Int) < (P : Int) := by omega
            have l4 : (v : Int) < (N : Int) := by omega
            have l5 : (0 : Int) ≤ (v : Int) := by omega
            have l6 : (t : Int) < (N : Int) := by omega
            have l7 : (0 : Int) ≤ (t : Int) := by omega
            have hRk := HSV.out.ge k (by omega)
            clear hmv hDv htv htb ht8 htt
            by_cases hsing : k &&& (k - 1) = 0
            case' pos =>
              have hc : (((k &&& (k - 1) : Nat) : Int) == 0) = true := by rw [hsing]; rfl
              have hrow : rowA L D k v = pF L k v ((k - 1) &&& k) (D t v) := by unfold rowA; rw [if_pos hsing, HTV.out.2]
              have HROW := Lib.hid hrow
              clear hsing hrow
              go_upto_region 12 with fail
              refine wp_region_drew_tail 15 (by kernel_rfl) (by kernel_rfl) ?_
              simp only [List.take_succ_cons, List.take_zero, List.drop_succ_cons, List.drop_zero]
              repeat (go_big_quiet_step (first | (go_at_call 66; exact HTZ.out _)))
              refine wpQuiet_nil ?_
              rintro _ ⟨nq, rfl⟩
              go_upto_region 13 with fail
              obtain ⟨acc, hacc⟩ : ∃ acc, acc = D t v := ⟨_, rfl⟩
              have hSA : SteM w3 ((wv.drewN nq).setCell ⟨R1 k, v, none⟩ (.int .i64 (D t v))) gL P (k + 1) N R1 (fB L k v (rowA L D k) acc (fun _ => 1048576)) :=
                by rw [hacc, ← fA_upd]; exact (HSV.out.drewN nq).set (i := k) (by omega) v (D t v)
              have haccb : 0 ≤ acc ∧ acc ≤ far := by rw [hacc]; exact H.out.2.2.2.1 t v
              rw [← hacc] at hSA HROW ⊢
              obtain ⟨wA, hwA⟩ : ∃ wA, wA = (wv.drewN nq).setCell ⟨R1 k, v, none⟩ (.int .i64 acc) := ⟨_, rfl⟩
              rw [← hwA] at hSA ⊢
              have HSA := Lib.hid (And.intro hSA haccb)
              clear hwA hacc hSA haccb x1 x2 x3 x4 x5 hc
            case' neg =>
              have hc : (((k &&& (k - 1) : Nat) : Int) == 0) = false := by simp; omega
              have hrow : rowA L D k v = pF L k v ((k - 1) &&& k) 1048576 := by unfold rowA; rw [if_neg hsing]; rfl
              have HROW0 := Lib.hid hrow
              clear hsing hrow
              go_upto_region 13 with fail
              obtain ⟨acc, hacc⟩ : ∃ acc, acc = (1048576 : Int) := ⟨_, rfl⟩
              obtain ⟨wA, rfl⟩ : ∃ w : World, w = wv := ⟨_, rfl⟩
              have hSA : SteM w3 wA gL P (k + 1) N R1 (fB L k v (rowA L D k) acc (fun _ => 1048576)) :=
                by rw [hacc, ← fA_B (L := L) (k := k) (v := v) (A := rowA L D k) (Z := fun _ => (1048576 : Int)) rfl]; exact HSV.out
              have haccb : 0 ≤ acc ∧ acc ≤ far := by rw [hacc]; unfold far; omega
              have HROW : Hid (rowA L D k v = pF L k v ((k - 1) &&& k) acc) := Lib.hid (by rw [hacc]; exact HROW0.out)
              have HSA := Lib.hid (And.intro hSA haccb)
              clear hacc hSA haccb x1 x2 x3 x4 x5 hc HROW0
            all_goals
              go_wp2_with fail
              clear e_and e_and2 e_k1 e_k2
              go_loopw [9] (fun pv wx => ∃ (part : Nat) (ac : Int), pv = .int .i64 part ∧ part < k ∧ part &&& k = part ∧ pF L k v part ac = rowA L D k v ∧ (0 ≤ ac ∧ ac ≤ far) ∧ SteM w3 wx gL P (k + 1) N R1 (fB L k v (rowA L D k) ac (fun _ => 1048576))) (fun pv _ => (intOf pv).toNat)
              case atStart => exact ⟨(k - 1) &&& k, acc, rfl, by have := @Nat.and_le_left (k - 1) k; omega, by rw [Nat.and_assoc, Nat.and_self], HROW.out.symm, HSA.out.2, HSA.out.1⟩
              case round =>
                obtain ⟨part, ac, rfl, hpk, hps, hpf, hab, hSp⟩ := hrel
                obtain ⟨wp, rfl⟩ : ∃ wo : World, wo = wr := ⟨_, rfl⟩
                have HSP := Lib.hid hSp
                have HPS := Lib.hid (And.intro hps hpf)
                clear hSp hps hpf
                by_cases hp0 : part = 0
                · have hfin : ac = rowA L D k v := by
                    have := HPS.out.2
                    rw [hp0, pF_zero] at this
                    exact this
                  have hn1 : ¬ (0 : Int) < (part : Int) := by omega
                  have HFIN := Lib.hid hfin
                  clear hp0 hfin
                  go_wp2_with fail
                  go_roundw
                  case rel =>
                    exact ⟨v + 1, by omega, by go_num, by rw [← fB_next HFIN.out]; exact HSP.out⟩
                  case measure => simp [intOf]; omega
                · have hdl := dif_self_lt hp0 HPS.out.1
                  have e_an := andnot_nat k part (by omega) (by omega)
                  obtain ⟨df, hdf⟩ : ∃ q, q = dif k part := ⟨_, rfl⟩
                  have hst := pF_step L k v ac hp0
                  rw [← hdf] at hdl e_an hst
                  have hmp := HSP.out.mx
                  have x1 := hmp.rows k (by omega)
                  have x2 := hmp.rows part (by omega)
                  have x3 := hmp.rows df (by omega)
                  have x4 := hmp.cell (i := k) (j := v) (by omega) hvN
                  have x5 := hmp.cell (i := part) (j := v) (by omega) hvN
                  have x6 := hmp.cell (i := df) (j := v) (by omega) hvN
                  have x7 := hmp.frozen (i := k) (by omega) v
                  rw [fB_at] at x4
                  rw [fB_other (by omega)] at x5
                  rw [fB_other (by omega)] at x6
                  have hwr := w64f (HL.out.2 part v) (HL.out.2 df v)
                  have hnb := cMin_bd hab (show 0 ≤ L part v + L df v by have := HL.out.2 part v; have := HL.out.2 df v; omega)
                  obtain ⟨nv, hnv⟩ : ∃ nv, nv = cMin ac (L part v + L df v) := ⟨_, rfl⟩
                  have hv2 : (if L part v + L df v < ac then L part v + L df v else ac) = nv := by rw [hnv]; rfl
                  rw [← hnv] at hst hnb
                  have HST := Lib.hid (And.intro hst hnb)
                  have l8 : (0 : Int) < (part : Int) := by omega
                  have l9 : (part : Int) < (P : Int) := by omega
                  have l10 : (df : Int) < (P : Int) := by omega
                  have l11 : (0 : Int) ≤ (df : Int) := by omega
                  have l12 : (0 : Int) ≤ (part : Int) := by omega
                  have e_p1 : (part : Int) - 1 = ((part - 1 : Nat) : Int) := by omega
                  have e_p2 : wrap64 ((part : Int) - 1) = ((part - 1 : Nat) : Int) := by rw [e_p1]; unfold wrap64; omega
                  have e_pa := and_nat (part - 1) k (by omega) (by omega)
                  clear hmp hdf hst hnb hnv hab
                  generalize L part v = y1 at *
                  generalize L df v = y2 at *
                  go_upto_region 16 with fail
                  refine wp_region_drew_tail 31 (by kernel_rfl) (by kernel_rfl) ?_
                  simp only [List.take_succ_cons, List.take_zero, List.drop_succ_cons, List.drop_zero]
                  repeat (go_big_quiet_step (fail))
                  refine wpQuiet_nil ?_
                  rintro _ ⟨nq2, rfl⟩
                  have hres := ((HSP.out.drewN nq2).set (i := k) (by omega) v nv)
                  have HE := Lib.hid hres
                  clear hres
                  go_wp2_with fail
                  go_roundw
                  case rel =>
                    exact ⟨(part - 1) &&& k, nv, rfl, by have := @Nat.and_le_left (part - 1) k; omega, by rw [Nat.and_assoc, Nat.and_self], by rw [← HST.out.1]; exact HPS.out.2, HST.out.2, by rw [← fB_upd]; exact HE.out⟩
                  case measure =>
                    have := @Nat.and_le_left (part - 1) k
                    show (((part - 1) &&& k : Nat) : Int).toNat < ((part : Nat) : Int).toNat
                    omega
          · obtain rfl : N = v := by omega
            have hS2 : SteM w3 wv gL P (k + 1) N R1 (fA L k 0 (rowB L D N k) (rowA L D k)) := HSV.out.congr fun a b _ hb => by rw [fA_all hb, fA_0]
            have hrk := hS2.mx.cells k (by omega)
            have hml : rowM (fA L k 0 (rowB L D N k) (rowA L D k)) k N = rowM (fun _ x => rowA L D k x) k N := rowM_congr fun j _ => by rw [fA_0, if_pos rfl]
            rw [hml] at hrk
            obtain ⟨ml, hmle⟩ : ∃ ml, ml = rowM (fun _ x => rowA L D k x) k N := ⟨_, rfl⟩
            rw [← hmle] at hrk
            have hmll : ml.length = N := by rw [hmle, rowM_length]
            have hmlg : ∀ u, u < N → ml[u]? = some (rowA L D k u) := fun u hu => by rw [hmle, rowM_get hu]
            have HCL := Lib.hid (clone_any (some ⟨R1 k, 0, none⟩) N N ml wv hmll (by omega) (blk_ints hrk))
            have y1 := hS2.mx.rows k (by omega)
            have HS2 := Lib.hid (And.intro hS2 (And.intro hmll (And.intro hmlg hrk.lt)))
            have l3 : (k : Int) < (P : Int) := by omega
            clear hS2 hrk hml hmle hmll hmlg
            go_wp2_with fail
            refine HCL.out.mono ?_
            rintro e w7 ⟨A7, c7, rfl, hown7, hb7⟩
            obtain ⟨gm, rfl, hgm1, hgm2⟩ := own_some hown7 (by omega)
            have hmI : Ints w7 (some ⟨gm, 0, none⟩) ml := At.of_own hown7
            have hS7 := HS2.out.1.next hb7
            have hne : gm ≠ R1 k := by have := HS2.out.2.2.2; omega
            have H7 := Lib.hid (And.intro hmI hS7)
            obtain ⟨_, hBm, _, _⟩ := HALL.out w7 hS7.kp
            obtain ⟨m1, _, _, _⟩ := hBm.at2
            clear hown7 hb7 hmI hS7 hBm y1 HCL
            go_wp2_with fail
            clear m1
            go_loopw [113] (fun iv wx => ∃ v : Nat, v ≤ N ∧ iv = .int .i64 v ∧ SteM w3 wx gL P (k + 1) N R1 (fA L k v (rowB L D N k) (rowA L D k)) ∧ Ints wx (some ⟨gm, 0, none⟩) ml) (fun iv _ => N - (intOf iv).toNat)
            case atStart => exact ⟨0, Nat.zero_le _, rfl, H7.out.2, H7.out.1⟩
            case round =>
              obtain ⟨v, hv2, rfl, hSv, hIv⟩ := hrel
              obtain ⟨wb, rfl⟩ : ∃ wo : World, wo = wr := ⟨_, rfl⟩
              have HB := Lib.hid (And.intro hSv hIv)
              obtain ⟨_, hBm, _, _⟩ := HALL.out wb hSv.kp
              obtain ⟨m1, _, _, _⟩ := hBm.at2
              clear hSv hIv hBm
              by_cases hvN : v < N
              · go_wp2_with fail
                clear m1
                go_loopw [118] (fun iv wx => ∃ u : Nat, u ≤ N ∧ iv = .int .i64 u ∧ SteM w3 wx gL P (k + 1) N R1 (fB L k v (rowB L D N k) (mrg (rowA L D) D k v u (rowA L D k v)) (rowA L D k)) ∧ Ints wx (some ⟨gm, 0, none⟩) ml) (fun iv _ => N - (intOf iv).toNat)
                case atStart => exact ⟨0, Nat.zero_le _, rfl, by rw [← fA_B (L := L) (k := k) (v := v) (A := rowB L D N k) (Z := rowA L D k) (ac := mrg (rowA L D) D k v 0 (rowA L D k v)) rfl]; exact HB.out.1, HB.out.2⟩
                case round =>
                  obtain ⟨u, hu, rfl, hSu, hIu⟩ := hrel
                  obtain ⟨wu, rfl⟩ : ∃ wo : World, wo = wr := ⟨_, rfl⟩
                  have HU := Lib.hid (And.intro hSu hIu)
                  by_cases huN : u < N
                  · obtain ⟨hDu, _, _, _⟩ := HALL.out wu hSu.kp
                    obtain ⟨ac, hac⟩ : ∃ ac, ac = mrg (rowA L D) D k v u (rowA L D k v) := ⟨_, rfl⟩
                    have hnx : mrg (rowA L D) D k v (u + 1) (rowA L D k v) = cMin ac (rowA L D k u + D u v) := by rw [hac]; rfl
                    rw [← hac] at HU hSu
                    have hmx := hSu.mx
                    have x1 := hmx.rows k (by omega)
                    have x2 := hmx.cell (i := k) (j := v) (by omega) hvN
                    rw [fB_at] at x2
                    have x3 := hmx.frozen (i := k) (by omega) v
                    have x4 := hDu.rows u huN
                    have x5 := hDu.cell huN hvN
                    obtain ⟨am, hAm, _, hcm⟩ := hIu.some_ (by rw [HS2.out.2.1]; omega)
                    injection hAm with hAm
                    have x6 := hcm u _ (HS2.out.2.2.1 u huN)
                    rw [← hAm] at x6
                    have ea : (⟨gm, 0, none⟩ : Addr).add u = ⟨gm, u, none⟩ := by simp [Addr.add]; omega
                    have x7 := x6
                    rw [ea] at x7
                    have hwr := w64f (rowA_bd HL.out.2 H.out.2.2.2.1 k u) (H.out.2.2.2.1 u v)
                    obtain ⟨nv, hnv⟩ : ∃ nv, nv = cMin ac (rowA L D k u + D u v) := ⟨_, rfl⟩
                    have hv3 : (if rowA L D k u + D u v < ac then rowA L D k u + D u v else ac) = nv := by rw [hnv]; rfl
                    rw [← hnv] at hnx
                    have HNX := Lib.hid hnx
                    have l4 : (v : Int) < (N : Int) := by omega
                    have l5 : (0 : Int) ≤ (v : Int) := by omega
                    have l6 : (u : Int) < (N : Int) := by omega
                    have l7 : (0 : Int) ≤ (u : Int) := by omega
                    clear hSu hIu hDu hmx hnx hnv hac hcm hAm ea
                    generalize rowA L D k u = z1 at *
                    generalize D u v = z2 at *
                    go_upto_region 25 with fail
                    refine wp_region_drew_tail 26 (by kernel_rfl) (by kernel_rfl) ?_
                    simp only [List.take_succ_cons, List.take_zero, List.drop_succ_cons, List.drop_zero]
                    repeat (go_big_quiet_step (fail))
                    refine wpQuiet_nil ?_
                    rintro _ ⟨nq2, rfl⟩
                    have hres := ((HU.out.1.drewN nq2).set (i := k) (by omega) v nv)
                    rw [fB_upd] at hres
                    have HE := Lib.hid (And.intro hres (ints_far (show Ints (wu.drewN nq2) (some ⟨gm, 0, none⟩) ml from HU.out.2) (p := ⟨R1 k, v, none⟩) hne.symm (.int .i64 nv)))
                    clear hres
                    go_wp2_with fail
                    go_roundw
                    case rel => exact ⟨u + 1, by omega, by go_num, by rw [HNX.out]; exact HE.out.1, HE.out.2⟩
                    case measure => simp [intOf]; omega
                  · obtain rfl : N = u := by omega
                    clear hSu hIu
                    go_wp2_with fail
                    go_roundw
                    case rel => exact ⟨v + 1, by omega, by go_num, by rw [← fB_next (ac := mrg (rowA L D) D k v N (rowA L D k v)) (A := rowB L D N k) rfl]; exact HU.out.1, HU.out.2⟩
                    case measure => simp [intOf]; omega
              · obtain rfl : N = v := by omega
                clear m1
                go_wp2_with fail
                go_roundw
                case rel => exact ⟨k + 1, R1, by omega, by go_num, by rw [HT.out]; exact HB.out.1.congr fun a b _ hb => fA_all hb⟩
                case measure => simp [intOf]; omega
    · obtain rfl : P = k := by omega
      have hrs := HS.out.mx.cells s hs.2
      have y1 := HS.out.mx.rows s hs.2
      have HMN := Lib.hid (min_any (some ⟨RR s, 0, none⟩) N N (rowM (stT D N s P) s N) wo (rowM_length _ _ _) (by omega) (by omega) (blk_ints hrs))
      have hfin : lmin (rowM (stT D N s P) s N) = steF rs N s := by unfold steF; rw [H.out.2.2.2.2.1, H.out.2.2.2.2.2]
      rw [hfin] at HMN
      obtain ⟨_, _, _, hbw⟩ := HALL.out wo HS.out.kp
      have HBW := Lib.hid hbw
      have l1 : (s : Int) < (P : Int) := by omega
      have l2 : (0 : Int) ≤ (s : Int) := by omega
      clear hrs hfin hbw
      go_wp2_with fail
      refine HMN.out.mono ?_
      rintro e w9 ⟨rfl, rfl⟩
      go_wp2_with fail
      go_ret
      exact ⟨rfl, HBW.out⟩

/- What steiner finds where all stops lie on one road: plain Lean. -/

/-- Of the parts of a set, the next one down. -/
theorem part_next : ∀ (n k p q : Nat), p ≤ n → p &&& k = p → q &&& k = q → q < p → q ≤ (p - 1) &&& k
  | 0, k, p, q, hp, _, _, hq => by omega
  | n + 1, k, p, q, hp, hpk, hqk, hq => by
    have e1 : (p &&& k) / 2 = p / 2 &&& k / 2 := Nat.and_div_two
    have e2 : (q &&& k) / 2 = q / 2 &&& k / 2 := Nat.and_div_two
    have e3 : ((p - 1) &&& k) / 2 = (p - 1) / 2 &&& k / 2 := Nat.and_div_two
    rw [hpk] at e1
    rw [hqk] at e2
    have b : ∀ x : Nat, (x.testBit 0 = true ↔ x % 2 = 1) := fun x => by rw [Nat.testBit_zero]; simp
    have b1 : q.testBit 0 = true → k.testBit 0 = true := fun h => by
      have := congrArg (fun z => z.testBit 0) hqk
      simp only [Nat.testBit_and] at this
      rw [h] at this
      simpa using this
    have b2 : ((p - 1) &&& k).testBit 0 = ((p - 1).testBit 0 && k.testBit 0) := Nat.testBit_and ..
    by_cases hp2 : p % 2 = 1
    · have h1 : (p - 1) / 2 = p / 2 := by omega
      rw [h1, ← e1] at e3
      omega
    · have h1 : (p - 1) / 2 = p / 2 - 1 := by omega
      rw [h1] at e3
      have ih := part_next n (k / 2) (p / 2) (q / 2) (by omega) e1.symm e2.symm (by omega)
      rw [← e3] at ih
      by_cases hq2 : q % 2 = 1
      · have hk := b1 ((b q).2 hq2)
        have hpb : (p - 1).testBit 0 = true := (b (p - 1)).2 (by omega)
        rw [hk, hpb] at b2
        have := (b _).1 (show ((p - 1) &&& k).testBit 0 = true by rw [b2]; rfl)
        omega
      · omega
theorem sub_pred (k p : Nat) : ((p - 1) &&& k) &&& k = (p - 1) &&& k := by rw [Nat.and_assoc, Nat.and_self]
section
variable {L : Nat → Nat → Int} {k v : Nat}
theorem pF_le_acc : ∀ (n p : Nat), p ≤ n → ∀ acc, pF L k v p acc ≤ acc
  | 0, p, hp, acc => by
    obtain rfl : p = 0 := by omega
    rw [pF_zero]; exact Int.le_refl _
  | n + 1, p, hp, acc => by
    by_cases h : p = 0
    · subst h; rw [pF_zero]; exact Int.le_refl _
    · rw [pF_step _ _ _ _ h]
      exact Int.le_trans (pF_le_acc n _ (by have := part_lt (set := k) h; omega) _) (cMin_le _ _).1
theorem pF_le : ∀ (n p : Nat), p ≤ n → p &&& k = p → ∀ acc (q : Nat), q ≠ 0 → q &&& k = q → q ≤ p → pF L k v p acc ≤ L q v + L (dif k q) v
  | 0, p, hp, _, acc, q, hq0, _, hqp => by omega
  | n + 1, p, hp, hpk, acc, q, hq0, hqk, hqp => by
    have h : p ≠ 0 := by omega
    rw [pF_step _ _ _ _ h]
    by_cases e : q = p
    · subst e
      exact Int.le_trans (pF_le_acc _ _ (Nat.le_refl _) _) (cMin_le _ _).2
    · exact pF_le n _ (by have := part_lt (set := k) h; omega) (sub_pred k p) _ q hq0 hqk (part_next p k p q (Nat.le_refl _) hpk hqk (by omega))
theorem le_pF {X : Int} (hX : ∀ q, q ≠ 0 → q &&& k = q → q < k → X ≤ L q v + L (dif k q) v) : ∀ (n p : Nat), p ≤ n → p &&& k = p → p < k → ∀ acc, X ≤ acc → X ≤ pF L k v p acc
  | 0, p, hp, _, _, acc, ha => by
    obtain rfl : p = 0 := by omega
    rw [pF_zero]; exact ha
  | n + 1, p, hp, hpk, hlt, acc, ha => by
    by_cases h : p = 0
    · subst h; rw [pF_zero]; exact ha
    · rw [pF_step _ _ _ _ h]
      have := part_lt (set := k) h
      exact le_pF hX n _ (by omega) (sub_pred k p) (by omega) _ (le_cMin ha (hX p h hpk hlt))
end
theorem mrg_le_acc (A d : Nat → Nat → Int) (k v : Nat) (acc : Int) : ∀ u, mrg A d k v u acc ≤ acc
  | 0 => Int.le_refl _
  | u + 1 => Int.le_trans (cMin_le _ _).1 (mrg_le_acc A d k v acc u)
theorem mrg_le (A d : Nat → Nat → Int) (k v : Nat) (acc : Int) (x : Nat) : ∀ u, x < u → mrg A d k v u acc ≤ A k x + d x v
  | 0, h => by omega
  | u + 1, h => by
    by_cases e : x = u
    · subst e; exact (cMin_le _ _).2
    · exact Int.le_trans (cMin_le _ _).1 (mrg_le A d k v acc x u (by omega))
theorem le_mrg {A d : Nat → Nat → Int} {k v : Nat} {acc X : Int} (ha : X ≤ acc) : ∀ u, (∀ x, x < u → X ≤ A k x + d x v) → X ≤ mrg A d k v u acc
  | 0, _ => ha
  | u + 1, h => le_cMin (le_mrg ha u fun x hx => h x (by omega)) (h u (by omega))
/-- The ends of a set with one stop more. -/
structure Ends (k v lo hi : Nat) : Prop where
  lv : lo ≤ v
  hv : v ≤ hi
  all : ∀ j, k.testBit j = true → lo ≤ j ∧ j ≤ hi
  lm : lo = v ∨ k.testBit lo = true
  hm : hi = v ∨ k.testBit hi = true
theorem ends_ex (k v : Nat) : ∃ lo hi, Ends k v lo hi := by
  have gen : ∀ n, ∃ lo hi, lo ≤ v ∧ v ≤ hi ∧ (∀ j, j < n → k.testBit j = true → lo ≤ j ∧ j ≤ hi) ∧ (lo = v ∨ k.testBit lo = true) ∧ (hi = v ∨ k.testBit hi = true) := by
    intro n
    induction n with
    | zero => exact ⟨v, v, Nat.le_refl _, Nat.le_refl _, fun j hj => by omega, .inl rfl, .inl rfl⟩
    | succ n ih =>
      obtain ⟨lo, hi, h1, h2, h3, h4, h5⟩ := ih
      by_cases hb : k.testBit n = true
      · refine ⟨min lo n, max hi n, by omega, by omega, fun j hj hbj => ?_, ?_, ?_⟩
        · by_cases e : j = n
          · omega
          · have := h3 j (by omega) hbj; omega
        · rcases Nat.le_total lo n with h | h
          · rw [Nat.min_eq_left h]; exact h4
          · rw [Nat.min_eq_right h]; exact .inr hb
        · rcases Nat.le_total hi n with h | h
          · rw [Nat.max_eq_right h]; exact .inr hb
          · rw [Nat.max_eq_left h]; exact h5
      · refine ⟨lo, hi, h1, h2, fun j hj hbj => ?_, h4, h5⟩
        by_cases e : j = n
        · subst e; exact absurd hbj hb
        · exact h3 j (by omega) hbj
  obtain ⟨lo, hi, h1, h2, h3, h4, h5⟩ := gen (k + 1)
  refine ⟨lo, hi, h1, h2, fun j hb => ?_, h4, h5⟩
  refine h3 j ?_ hb
  rcases Nat.lt_or_ge j (k + 1) with h | h
  · exact h
  · exfalso
    rw [Nat.testBit_lt_two_pow (Nat.lt_of_lt_of_le (Nat.lt_two_pow_self (n := k)) (Nat.pow_le_pow_right (by omega) (by omega)))] at hb
    cases hb
theorem sub_bit {p k : Nat} (h : p &&& k = p) {j : Nat} (hb : p.testBit j = true) : k.testBit j = true := by
  have := congrArg (fun z => z.testBit j) h
  simp only [Nat.testBit_and] at this
  rw [hb] at this
  simpa using this
section
variable {cs : List Int}
/-- The span of a set with one stop more. -/
def spn (cs : List Int) (k v : Nat) (z : Int) : Prop := ∀ lo hi, Ends k v lo hi → z = sumS cs hi - sumS cs lo
theorem Ends.uniq {k v lo hi lo' hi' : Nat} (h : Ends k v lo hi) (h' : Ends k v lo' hi') : lo = lo' ∧ hi = hi' := by
  have a1 : lo' ≤ lo := by
    rcases h.lm with e | e
    · rw [e]; exact h'.lv
    · exact (h'.all lo e).1
  have a2 : lo ≤ lo' := by
    rcases h'.lm with e | e
    · rw [e]; exact h.lv
    · exact (h.all lo' e).1
  have a3 : hi ≤ hi' := by
    rcases h.hm with e | e
    · rw [e]; exact h'.hv
    · exact (h'.all hi e).2
  have a4 : hi' ≤ hi := by
    rcases h'.hm with e | e
    · rw [e]; exact h.hv
    · exact (h.all hi' e).2
  omega
theorem Ends.spn {k v lo hi : Nat} (h : Ends k v lo hi) : Go.Proofs.YtifmekijdepokaaDoor.spn cs k v (sumS cs hi - sumS cs lo) := fun lo' hi' h' => by
  obtain ⟨e1, e2⟩ := h.uniq h'
  rw [e1, e2]
theorem Ends.le {k v lo hi n : Nat} (h : Ends k v lo hi) (hv : v ≤ n) (hk : ∀ j, k.testBit j = true → j ≤ n) : lo ≤ n ∧ hi ≤ n := by
  refine ⟨by have := h.lv; omega, ?_⟩
  rcases h.hm with e | e
  · omega
  · exact hk hi e
/-- Two parts with the same stop: their spans are at least the whole's. -/
theorem ends_tri (hc : CsOk cs) {k p v lo hi l1 h1 l2 h2 : Nat} (hp : p &&& k = p) (hv : v ≤ cs.length) (hk : ∀ j, k.testBit j = true → j ≤ cs.length) (hE : Ends k v lo hi) (hE1 : Ends p v l1 h1) (hE2 : Ends (dif k p) v l2 h2) :
    sumS cs hi - sumS cs lo ≤ sumS cs h1 - sumS cs l1 + (sumS cs h2 - sumS cs l2) := by
  have hk1 : ∀ j, p.testBit j = true → j ≤ cs.length := fun j hj => hk j (sub_bit hp hj)
  have hk2 : ∀ j, (dif k p).testBit j = true → j ≤ cs.length := fun j hj => hk j (by rw [dif_bit] at hj; simp at hj; exact hj.1)
  have b0 := hE.le hv hk
  have b1 := hE1.le hv hk1
  have b2 := hE2.le hv hk2
  have m1 := sumS_mono hc v l1 hE1.lv hv
  have m2 := sumS_mono hc h1 v hE1.hv b1.2
  have m3 := sumS_mono hc v l2 hE2.lv hv
  have m4 := sumS_mono hc h2 v hE2.hv b2.2
  have up : sumS cs hi ≤ sumS cs h1 ∨ sumS cs hi ≤ sumS cs h2 := by
    rcases hE.hm with e | e
    · rw [e]; exact .inl m2
    · by_cases hb : p.testBit hi = true
      · exact .inl (sumS_mono hc h1 hi (hE1.all hi hb).2 b1.2)
      · exact .inr (sumS_mono hc h2 hi (hE2.all hi (by rw [dif_bit, e]; simp [hb])).2 b2.2)
  have dn : sumS cs l1 ≤ sumS cs lo ∨ sumS cs l2 ≤ sumS cs lo := by
    rcases hE.lm with e | e
    · rw [e]; exact .inl m1
    · by_cases hb : p.testBit lo = true
      · exact .inl (sumS_mono hc lo l1 (hE1.all lo hb).1 b0.1)
      · exact .inr (sumS_mono hc lo l2 (hE2.all lo (by rw [dif_bit, e]; simp [hb])).1 b0.1)
  omega
end

/- What steiner finds where all stops lie on one road: the table. Plain Lean. -/

theorem stT_stable (d : Nat → Nat → Int) (N s k v : Nat) : ∀ K, k < K → stT d N s K k v = stT d N s (k + 1) k v
  | 0, h => by omega
  | K + 1, h => by
    by_cases e : k = K
    · rw [e]
    · show (if k = K then _ else stT d N s K k v) = _
      rw [if_neg e]
      exact stT_stable d N s k v K (by omega)
theorem dif_zero {k s : Nat} : dif k s = 0 ↔ ∀ j, k.testBit j = true → s.testBit j = true := by
  constructor
  · intro h j hj
    have := congrArg (fun z => z.testBit j) h
    simp only [dif_bit, Nat.zero_testBit] at this
    rw [hj] at this
    simpa using this
  · intro h
    apply Nat.eq_of_testBit_eq
    intro j
    rw [dif_bit, Nat.zero_testBit]
    cases hj : k.testBit j with
    | false => rfl
    | true => rw [h j hj]; rfl
theorem pow_sub {k j : Nat} (hj : k.testBit j = true) : 2 ^ j &&& k = 2 ^ j := by
  apply Nat.eq_of_testBit_eq
  intro i
  rw [Nat.testBit_and, Nat.testBit_two_pow]
  by_cases e : j = i
  · subst e; simp [hj]
  · simp [e]
theorem pow_le_of_bit {k j : Nat} (hj : k.testBit j = true) : 2 ^ j ≤ k := by
  have := @Nat.and_le_right (2 ^ j) k
  rw [pow_sub hj] at this
  exact this
theorem one_bit {k : Nat} (h0 : k &&& (k - 1) = 0) {j : Nat} (hj : k.testBit j = true) : k = 2 ^ j := by
  rcases Nat.lt_or_ge (2 ^ j) k with h | h
  · have := part_next k k k (2 ^ j) (Nat.le_refl _) (Nat.and_self k) (pow_sub hj) h
    rw [Nat.and_comm, h0] at this
    have := Nat.two_pow_pos j
    omega
  · have := pow_le_of_bit hj
    omega
section
variable {cs : List Int} {L d : Nat → Nat → Int} {k v : Nat}
/-- What is known of the parts of a set. -/
def Known (cs : List Int) (L : Nat → Nat → Int) (k : Nat) : Prop := ∀ q, q ≠ 0 → q &&& k = q → q < k → ∀ v, v ≤ cs.length → spn cs q v (L q v)
def DisOk (cs : List Int) (d : Nat → Nat → Int) : Prop := ∀ x y, x ≤ cs.length → y ≤ cs.length → d x y = dS cs x y
def InL (cs : List Int) (k : Nat) : Prop := ∀ j, k.testBit j = true → j ≤ cs.length
theorem dif_and (k q : Nat) : dif k q &&& k = dif k q := by
  apply Nat.eq_of_testBit_eq
  intro j
  rw [Nat.testBit_and, dif_bit]
  cases k.testBit j <;> simp
theorem dif_ne {k q : Nat} (h : q &&& k = q) (hlt : q < k) : dif k q ≠ 0 := by
  intro e
  have h1 := dif_zero.1 e
  have : q = k := by
    apply Nat.eq_of_testBit_eq
    intro j
    cases hj : k.testBit j with
    | true => exact h1 j hj
    | false =>
      cases hq : q.testBit j with
      | false => rfl
      | true => rw [sub_bit h hq] at hj; cases hj
  omega
theorem spn_shift (hc : CsOk cs) {u lo hi l h : Nat} (hu : u ≤ cs.length) (hv : v ≤ cs.length) (hk : InL cs k) (hE : Ends k v lo hi) (hE1 : Ends k u l h) : sumS cs hi - sumS cs lo ≤ sumS cs h - sumS cs l + dS cs u v := by
  have b1 := hE1.le hu hk
  have b0 := hE.le hv hk
  have m1 := sumS_mono hc u l hE1.lv hu
  have m2 := sumS_mono hc h u hE1.hv b1.2
  have dd : sumS cs v - sumS cs u ≤ dS cs u v ∧ sumS cs u - sumS cs v ≤ dS cs u v := by
    unfold dS
    split
    · rename_i hh; have := sumS_mono hc v u hh hv; omega
    · rename_i hh; have := sumS_mono hc u v (by omega) hu; omega
  have mlv := sumS_mono hc v lo hE.lv hv
  have mvh := sumS_mono hc hi v hE.hv b0.2
  rcases hE.hm with e | e
  · rcases hE.lm with e2 | e2
    · rw [e, e2]; omega
    · have := sumS_mono hc lo l (hE1.all lo e2).1 b0.1
      rw [e]; omega
  · have a1 := sumS_mono hc h hi (hE1.all hi e).2 b1.2
    rcases hE.lm with e2 | e2
    · rw [e2]; omega
    · have := sumS_mono hc lo l (hE1.all lo e2).1 b0.1
      omega
theorem rowA_ge (hc : CsOk cs) (hL : Known cs L k) (hd : DisOk cs d) (hk1 : 1 ≤ k ∧ k < 256) (hk : InL cs k) (hv : v ≤ cs.length) {lo hi : Nat} (hE : Ends k v lo hi) : sumS cs hi - sumS cs lo ≤ rowA L d k v := by
  unfold rowA
  have b0 := hE.le hv hk
  refine le_pF (X := sumS cs hi - sumS cs lo) (fun q h1 h2 h3 => ?_) _ _ (Nat.le_refl _) (sub_pred k k) (by have := @Nat.and_le_left (k - 1) k; omega) _ ?_
  · obtain ⟨l1, h1', e1⟩ := ends_ex q v
    obtain ⟨l2, h2', e2⟩ := ends_ex (dif k q) v
    rw [hL q h1 h2 h3 v hv l1 h1' e1, hL (dif k q) (dif_ne h2 h3) (dif_and k q) (dif_self_lt h1 (by rw [Nat.and_comm] at h2; rw [Nat.and_comm]; exact h2)) v hv l2 h2' e2]
    exact ends_tri hc h2 hv hk hE e1 e2
  · split
    · rename_i h0
      obtain ⟨_, _, _, _, _, htb⟩ := tzI_ok hk1
      have hko := one_bit h0 htb
      have htl := hk _ htb
      rw [hd _ _ htl hv]
      have hE1 : Ends k (lowb k) (lowb k) (lowb k) := ⟨Nat.le_refl _, Nat.le_refl _, fun j hj => by
        rw [hko, Nat.testBit_two_pow] at hj
        have := of_decide_eq_true hj
        omega, .inl rfl, .inl rfl⟩
      have := spn_shift hc htl hv hk hE hE1
      omega
    · have h1 := sumS_bd hc hi b0.2
      have h2 := sumS_bd hc lo b0.1
      have := hc.1
      unfold far
      omega
theorem rowA_le (hL : Known cs L k) (hv : v ≤ cs.length) {q : Nat} (h1 : q ≠ 0) (h2 : q &&& k = q) (h3 : q < k) {l1 u1 l2 u2 : Nat} (e1 : Ends q v l1 u1) (e2 : Ends (dif k q) v l2 u2) :
    rowA L d k v ≤ (sumS cs u1 - sumS cs l1) + (sumS cs u2 - sumS cs l2) := by
  unfold rowA
  have hq : q ≤ (k - 1) &&& k := part_next k k k q (Nat.le_refl _) (Nat.and_self k) h2 h3
  refine Int.le_trans (pF_le _ _ (Nat.le_refl _) (sub_pred k k) _ q h1 h2 hq) ?_
  rw [hL q h1 h2 h3 v hv l1 u1 e1, hL (dif k q) (dif_ne h2 h3) (dif_and k q) (dif_self_lt h1 (by rw [Nat.and_comm] at h2; rw [Nat.and_comm]; exact h2)) v hv l2 u2 e2]
  exact Int.le_refl _
/-- At one of its own stops, a set's row is at most its span. -/
theorem rowA_at (hL : Known cs L k) (hd : DisOk cs d) (hk1 : 1 ≤ k ∧ k < 256) (hk : InL cs k) (hv : k.testBit v = true) {lo hi : Nat} (hE : Ends k v lo hi) : rowA L d k v ≤ sumS cs hi - sumS cs lo := by
  have hvl := hk v hv
  by_cases hs : k = 2 ^ v
  · have h0 : k &&& (k - 1) = 0 := by
      apply Nat.eq_of_testBit_eq
      intro j
      rw [Nat.testBit_and, Nat.zero_testBit, hs, Nat.testBit_two_pow, Nat.testBit_two_pow_sub_one]
      by_cases e : v = j
      · subst e; simp
      · simp [e]
    have hl : lowb k = v := by
      obtain ⟨_, _, _, _, _, htb⟩ := tzI_ok hk1
      rw [hs, Nat.testBit_two_pow] at htb
      rw [hs]
      exact (of_decide_eq_true htb).symm
    have e1 : lo = v ∧ hi = v := by
      have hb : ∀ j, k.testBit j = true → j = v := fun j hj => by
        rw [hs, Nat.testBit_two_pow] at hj
        exact (of_decide_eq_true hj).symm
      refine ⟨?_, ?_⟩
      · rcases hE.lm with e | e
        · exact e
        · exact hb _ e
      · rcases hE.hm with e | e
        · exact e
        · exact hb _ e
    unfold rowA
    refine Int.le_trans (pF_le_acc _ _ (Nat.le_refl _) _) ?_
    rw [if_pos h0, hl, hd v v hvl hvl, e1.1, e1.2]
    unfold dS
    rw [if_pos (Nat.le_refl _)]
    exact Int.le_refl _
  · have hlt : 2 ^ v < k := by have := pow_le_of_bit hv; omega
    have e1 : Ends (2 ^ v) v v v := ⟨Nat.le_refl _, Nat.le_refl _, fun j hj => by
      rw [Nat.testBit_two_pow] at hj
      have := of_decide_eq_true hj
      omega, .inl rfl, .inl rfl⟩
    have e2 : Ends (dif k (2 ^ v)) v lo hi := by
      refine ⟨hE.lv, hE.hv, fun j hj => hE.all j (by rw [dif_bit] at hj; simp at hj; exact hj.1), ?_, ?_⟩
      · by_cases e : lo = v
        · exact .inl e
        · rcases hE.lm with e3 | e3
          · exact .inl e3
          · exact .inr (by rw [dif_bit, e3, Nat.testBit_two_pow]; simp; omega)
      · by_cases e : hi = v
        · exact .inl e
        · rcases hE.hm with e3 | e3
          · exact .inl e3
          · exact .inr (by rw [dif_bit, e3, Nat.testBit_two_pow]; simp; omega)
    have := rowA_le (d := d) hL hvl (Nat.ne_of_gt (Nat.two_pow_pos v)) (pow_sub hv) hlt e1 e2
    omega
theorem rowB_path (hc : CsOk cs) (hL : Known cs L k) (hd : DisOk cs d) (hk1 : 1 ≤ k ∧ k < 256) (hk : InL cs k) (hv : v ≤ cs.length) {lo hi : Nat} (hE : Ends k v lo hi) : rowB L d (cs.length + 1) k v = sumS cs hi - sumS cs lo := by
  apply Int.le_antisymm
  · unfold rowB
    have b0 := hE.le hv hk
    by_cases hvk : k.testBit v = true
    · exact Int.le_trans (mrg_le_acc _ _ _ _ _ _) (rowA_at hL hd hk1 hk hvk hE)
    · obtain ⟨x, hx⟩ : ∃ x, k.testBit x = true := by
        obtain ⟨_, _, _, _, _, htb⟩ := tzI_ok hk1
        exact ⟨_, htb⟩
      obtain ⟨l, h, hE1⟩ := ends_ex k x
      have hlk : k.testBit l = true := by
        rcases hE1.lm with e | e
        · rw [e]; exact hx
        · exact e
      have hhk : k.testBit h = true := by
        rcases hE1.hm with e | e
        · rw [e]; exact hx
        · exact e
      have hEl : Ends k l l h := ⟨Nat.le_refl _, (hE1.all l hlk).2, hE1.all, .inl rfl, .inr hhk⟩
      have hEh : Ends k h l h := ⟨(hE1.all h hhk).1, Nat.le_refl _, hE1.all, .inr hlk, .inl rfl⟩
      by_cases e1 : lo = v
      · -- all lie behind v
        have hlv := (hE.all l hlk).1
        have hll := hk l hlk
        refine Int.le_trans (mrg_le _ _ _ _ _ l (cs.length + 1) (by omega)) ?_
        have h1 := rowA_at hL hd hk1 hk hlk hEl
        rw [hd l v hll hv]
        have h2 := sumS_mono hc hi h (hE.all h hhk).2 b0.2
        have h3 := sumS_mono hc l v (by omega) hll
        have h4 : dS cs l v ≤ sumS cs l - sumS cs v := by
          unfold dS
          split
          · rename_i h5; have := sumS_mono hc v l h5 hv; omega
          · omega
        rw [e1]
        omega
      · by_cases e2 : hi = v
        · have hhv := (hE.all h hhk).2
          have hhl := hk h hhk
          refine Int.le_trans (mrg_le _ _ _ _ _ h (cs.length + 1) (by omega)) ?_
          have h1 := rowA_at hL hd hk1 hk hhk hEh
          rw [hd h v hhl hv]
          have h2 := sumS_mono hc l lo (hE.all l hlk).1 (hk l hlk)
          have h4 : dS cs h v ≤ sumS cs v - sumS cs h := by
            unfold dS
            rw [if_pos (by omega)]
            exact Int.le_refl _
          rw [e2]
          omega
        · -- v lies between
          refine Int.le_trans (mrg_le_acc _ _ _ _ _ _) ?_
          have hlok : k.testBit lo = true := by
            rcases hE.lm with e | e
            · exact absurd e e1
            · exact e
          have hhik : k.testBit hi = true := by
            rcases hE.hm with e | e
            · exact absurd e e2
            · exact e
          have hlv := hE.lv
          have hhv := hE.hv
          have hqb : ∀ j, (k % 2 ^ (v + 1)).testBit j = (decide (j < v + 1) && k.testBit j) := fun j => Nat.testBit_mod_two_pow k (v + 1) j
          have hqk : k % 2 ^ (v + 1) &&& k = k % 2 ^ (v + 1) := by
            apply Nat.eq_of_testBit_eq
            intro j
            rw [Nat.testBit_and, hqb]
            cases k.testBit j <;> simp
          have hq0 : k % 2 ^ (v + 1) ≠ 0 := fun h0 => by
            have := hqb lo
            rw [h0, Nat.zero_testBit, hlok] at this
            simp at this
            omega
          have hqlt : k % 2 ^ (v + 1) < k := by
            refine Nat.lt_of_le_of_ne (Nat.mod_le _ _) fun h0 => ?_
            have := hqb hi
            rw [h0, hhik] at this
            simp at this
            omega
          have e3 : Ends (k % 2 ^ (v + 1)) v lo v := ⟨hlv, Nat.le_refl _, fun j hj => by
            rw [hqb] at hj
            simp at hj
            exact ⟨(hE.all j hj.2).1, by omega⟩, .inr (by rw [hqb, hlok]; simp; omega), .inl rfl⟩
          have e4 : Ends (dif k (k % 2 ^ (v + 1))) v v hi := ⟨Nat.le_refl _, hhv, fun j hj => by
            rw [dif_bit, hqb] at hj
            simp at hj
            obtain ⟨h1, h2⟩ := hj
            refine ⟨?_, (hE.all j h1).2⟩
            rcases h2 with h2 | h2
            · omega
            · exact absurd h1 (by rw [h2]; decide), .inl rfl, .inr (by rw [dif_bit, hqb, hhik]; simp; omega)⟩
          have := rowA_le (d := d) hL hv hq0 hqk hqlt e3 e4
          omega
  · unfold rowB
    refine le_mrg (rowA_ge hc hL hd hk1 hk hv hE) _ fun x hx => ?_
    obtain ⟨l, h, hE1⟩ := ends_ex k x
    have h1 := rowA_ge (d := d) hc hL hd hk1 hk (v := x) (by omega) hE1
    have h2 := spn_shift hc (u := x) (by omega) hv hk hE hE1
    rw [hd x v (by omega) hv]
    omega
/-- The table of a map whose stops lie on one road. -/
theorem ste_path (hc : CsOk cs) {s : Nat} : ∀ (n k : Nat), k ≤ n → 1 ≤ k → k < 256 → InL cs k → dif k s = 0 → ∀ v, v ≤ cs.length → ∀ K, k < K → spn cs k v (stT (distF (pathR cs) (cs.length + 1)) (cs.length + 1) s K k v)
  | 0, k, hk, h1, _, _, _, _, _, _, _ => by omega
  | n + 1, k, hk, h1, h2, hin, hds, v, hv, K, hK => by
    intro lo hi hE
    rw [stT_stable _ _ _ _ _ K hK]
    show (if k = k then (if skipB s k then far else rowB (stT (distF (pathR cs) (cs.length + 1)) (cs.length + 1) s k) (distF (pathR cs) (cs.length + 1)) (cs.length + 1) k v) else _) = _
    have hsk : skipB s k = false := by
      unfold skipB
      rw [hds, decide_eq_false (by omega : ¬ k = 0)]; rfl
    rw [if_pos rfl, hsk]
    refine rowB_path hc (fun q hq1 hq2 hq3 u hu => ?_) (fun x y hx hy => dist_path hc hx hy) ⟨h1, h2⟩ hin hv hE
    exact ste_path hc n q (by omega) (by omega) (by omega) (fun j hj => hin j (sub_bit hq2 hj)) (dif_zero.2 fun j hj => dif_zero.1 hds j (sub_bit hq2 hj)) u hu k hq3
theorem lmin_eq {xs : List Int} {m : Int} (h1 : m ∈ xs) (h2 : ∀ x ∈ xs, m ≤ x) : lmin xs = m := by
  have hne : xs ≠ [] := fun e => by rw [e] at h1; cases h1
  have a := (lmin_ge hne m).2 h2
  have b := (lmin_ge hne (lmin xs)).1 (Int.le_refl _) m h1
  omega
/-- Steiner's least cost, where the first stop is among the stops: how far the last of them lies. -/
theorem steF_path (hc : CsOk cs) {s M : Nat} (hs : s < 2 ^ (cs.length + 1)) (h0 : s.testBit 0 = true) (hM : s.testBit M = true) (hall : ∀ j, s.testBit j = true → j ≤ M) : steF (pathR cs) (cs.length + 1) s = sumS cs M := by
  have hs1 : 1 ≤ s := by have := pow_le_of_bit h0; omega
  have hl := hc.1
  have hs256 : s < 256 := Nat.lt_of_lt_of_le hs (Nat.pow_le_pow_right (n := 2) (by omega) (show cs.length + 1 ≤ 8 by omega))
  have hin : InL cs s := fun j hj => by
    rcases Nat.lt_or_ge j (cs.length + 1) with h2 | h2
    · omega
    · rw [Nat.testBit_lt_two_pow (Nat.lt_of_lt_of_le hs (Nat.pow_le_pow_right (by omega) h2))] at hj
      cases hj
  have hML := hin M hM
  have hval : ∀ v, v ≤ cs.length → stT (distF (pathR cs) (cs.length + 1)) (cs.length + 1) s (2 ^ (cs.length + 1)) s v = sumS cs (max M v) := fun v hv => by
    have hE : Ends s v 0 (max M v) := ⟨Nat.zero_le _, Nat.le_max_right _ _, fun j hj => ⟨Nat.zero_le _, Nat.le_trans (hall j hj) (Nat.le_max_left _ _)⟩, .inr h0, by
      rcases Nat.le_total M v with h | h
      · rw [Nat.max_eq_right h]; exact .inl rfl
      · rw [Nat.max_eq_left h]; exact .inr hM⟩
    have := ste_path hc s s (Nat.le_refl _) hs1 hs256 hin (dif_zero.2 fun j hj => hj) v hv _ hs 0 (max M v) hE
    rw [this]
    show _ - (0 : Int) = _
    omega
  unfold steF
  refine lmin_eq (List.mem_map.2 ⟨0, List.mem_range.2 (by omega), by rw [hval 0 (Nat.zero_le _), Nat.max_eq_left (Nat.zero_le _)]⟩) fun x hx => ?_
  obtain ⟨v, hv, rfl⟩ := List.mem_map.1 hx
  have hv' := List.mem_range.1 hv
  rw [hval v (by omega)]
  exact sumS_mono hc (max M v) M (Nat.le_max_left _ _) (by omega)
end

/- Contract: the inner function of first (package route). -/

/-- What grow leaves. -/
def FGrowPost (X : FX) (w : World) (gl : Nat) (l : List Int) (res : Option (List Int)) (e : Ending) (w' : World) : Prop :=
  e = .returned (.bool res.isSome) ∧ ∃ gl' cap', LsB X w' gl' cap' (res.getD l) ∧ (gl' = gl ∨ w.heap.size ≤ gl') ∧ Kept w.heap.size [X.Bl, gl] w w'
theorem lst8p {p : List Int} (h : p.length = 8) : ∃ x0 x1 x2 x3 x4 x5 x6 x7, p = [x0, x1, x2, x3, x4, x5, x6, x7] := by
  match p, h with
  | [x0, x1, x2, x3, x4, x5, x6, x7], _ => exact ⟨x0, x1, x2, x3, x4, x5, x6, x7, rfl⟩
set_option maxRecDepth 100000 in
set_option maxHeartbeats 4000000 in
theorem rgrow_any (X : FX) (hx : X.ok) : ∀ (f i0 gl cap : Nat) (left : Int) (p l : List Int) (w : World), X.n + 1 ≤ i0 + f → i0 ≤ X.n → l.length ≤ i0 → p.length = 8 → (0 ≤ left ∧ left ≤ 100000000) → X.fix w → LsB X w gl cap l →
    Calls Tryd.prog 64 (#[.int .i64 i0, .int .i64 left, .agg (arr p)] ++ X.caps) w (FGrowPost X w gl l (growF X.rs X.s X.K X.long f i0 left p l))
  | 0, i0, gl, cap, left, p, l, w, hf, hi0, _, _, _, _, _ => by omega
  | f + 1, i0, gl, cap, left, p, l, w, hf, hi0, hli, hp8, hlb, hfx, hls => by
    obtain ⟨x0, x1, x2, x3, x4, x5, x6, x7, hpe⟩ := lst8p hp8
    have hn16 : X.n ≤ 16 := by have := (mapOk_iff.1 hx.hv).2.1; have := hx.hl; omega
    have IH := Lib.hid (rgrow_any X hx f)
    obtain ⟨w1, hw1⟩ : ∃ w1, w1 = w.alloc (.cells #[.int .i64 x0, .int .i64 x1, .int .i64 x2, .int .i64 x3, .int .i64 x4, .int .i64 x5, .int .i64 x6, .int .i64 x7] 75) := ⟨_, rfl⟩
    have hb1 : Below w.heap.size w w1 := by rw [hw1]; exact (Below.refl _ _).alloc (Nat.le_refl _) _
    have hPB : Blk w1 w.heap.size 75 (arr [x0, x1, x2, x3, x4, x5, x6, x7]) := by rw [hw1]; exact Blk.new _ _ _ rfl
    have hfx1 := hfx.below hb1
    have hls1 := hls.below hb1
    have hs1 : w1.heap.size = w.heap.size + 1 := by rw [hw1]; simp
    have hbl1 := hls1.box.lt
    have hlo := hx.low
    have hbs := hfx.bs
    have hgll := hls.lt
    have c0 := hls1.box.at1.1
    have c1 := hfx1.lo.at1.1
    have H := Lib.hid (And.intro hx (And.intro hfx1 (And.intro hls1 (And.intro hb1 (And.intro hPB (And.intro hpe hlb))))))
    obtain ⟨j, hj⟩ : ∃ j, j = l.length := ⟨_, rfl⟩
    rw [← hj] at c0 hli
    have HJ := Lib.hid hj
    rw [hpe]
    show Calls Tryd.prog 64 #[.int .i64 i0, .int .i64 left, .agg #[.int .i64 x0, .int .i64 x1, .int .i64 x2, .int .i64 x3, .int .i64 x4, .int .i64 x5, .int .i64 x6, .int .i64 x7], .pointer (some ⟨X.Bl, 0, none⟩), .pointer (some ⟨X.Blo, 0, none⟩), .pointer (some ⟨X.Bm, 0, none⟩), .pointer (some ⟨X.Bs, 0, none⟩), .pointer (some ⟨X.Bc, 0, none⟩), .pointer (some ⟨X.Bg, 0, none⟩)] w _
    rw [← hpe]
    clear hx hfx hfx1 hls hls1 hb1 hPB hpe hp8 hj
    go_enter Tryd.func64, Tryd.ntmps64
    go_upto_region 1 with fail
    rw [← hw1]
    clear hw1
    by_cases hlong : j = X.long
    · have hle : ((j : Int) == (X.long : Int)) = true := by simp; omega
      obtain ⟨m1, m2, _, _⟩ := H.out.2.1.m.at2
      have s1 := H.out.2.1.s.at1.1
      have k1 := H.out.2.1.c.at1.1
      have hgf : growF X.rs X.s X.K X.long (f + 1) i0 left p l = if (treeF X.rs X.s l).2 && decide ((treeF X.rs X.s l).1 = X.K) then some l else none := by
        rw [growF, if_pos (by rw [← HJ.out]; exact hlong)]
      have HGF := Lib.hid hgf
      have HT := Lib.hid (rtree_any X.N X.R X.n X.c X.rs X.s (some ⟨gl, 0, none⟩) j cap l w1 H.out.1.hl H.out.1.hv (H.out.1.hR.below H.out.2.1.bel) H.out.1.hs HJ.out.symm (by omega) H.out.2.2.1.ints (H.out.1.ht.below H.out.2.1.bel H.out.1.h2) (by have := H.out.2.1.bel.size; have := H.out.1.h2; omega))
      clear hgf hlong
      go_wp2_with fail
      refine HT.out.mono ?_
      rintro e w2 ⟨rfl, hb2⟩
      have k1' := (H.out.2.1.c.below hb2 H.out.2.1.c.lt).at1.1
      have hls2 := H.out.2.2.1.below hb2
      have hk2 : Kept w.heap.size [X.Bl, gl] w w2 := Kept.of_below (H.out.2.2.2.1.trans (hb2.mono H.out.2.2.2.1.size)) _
      have H2 := Lib.hid (And.intro hls2 hk2)
      clear hb2 hls2 hk2 HT m1 m2 s1 k1 c0 c1
      obtain ⟨t1, ht1⟩ : ∃ t, t = (treeF X.rs X.s l).1 := ⟨_, rfl⟩
      obtain ⟨t2, ht2⟩ : ∃ t, t = (treeF X.rs X.s l).2 := ⟨_, rfl⟩
      rw [← ht1, ← ht2] at HGF ⊢
      clear ht1 ht2
      cases t2 with
      | false =>
        go_wp2_with fail
        go_ret
        rw [HGF.out]
        exact ⟨rfl, gl, cap, H2.out.1, .inl rfl, H2.out.2⟩
      | true =>
        by_cases hk : t1 = X.K
        · have e1 : (t1 == X.K) = true := by simpa using hk
          have HG2 := Lib.hid (show growF X.rs X.s X.K X.long (f + 1) i0 left p l = some l by rw [HGF.out, decide_eq_true hk]; rfl)
          clear hk
          go_wp2_with fail
          go_ret
          rw [HG2.out]
          exact ⟨ret_bool (by first | rfl | exact e1), gl, cap, H2.out.1, .inl rfl, H2.out.2⟩
        · have e1 : (t1 == X.K) = false := by simpa using hk
          have HG2 := Lib.hid (show growF X.rs X.s X.K X.long (f + 1) i0 left p l = none by rw [HGF.out, decide_eq_false hk]; rfl)
          clear hk
          go_wp2_with fail
          go_ret
          rw [HG2.out]
          exact ⟨ret_bool (by first | rfl | exact e1), gl, cap, H2.out.1, .inl rfl, H2.out.2⟩
    · have hle : ((j : Int) == (X.long : Int)) = false := by simp; omega
      have hgf : growF X.rs X.s X.K X.long (f + 1) i0 left p l = (List.range X.rs.length).findSome? fun i =>
          if i < i0 ∨ pjoinL p (rdN X.rs i).1.toNat (rdN X.rs i).2.1.toNat = p ∨ left < (rdN X.rs i).2.2 then none
          else growF X.rs X.s X.K X.long f (i + 1) (left - (rdN X.rs i).2.2) (pjoinL p (rdN X.rs i).1.toNat (rdN X.rs i).2.1.toNat) (l ++ [(i : Int)]) := by
        rw [growF, if_neg (by rw [← HJ.out]; exact hlong)]
      obtain ⟨F, hF⟩ : ∃ F : Nat → Option (List Int), F = fun i =>
          if i < i0 ∨ pjoinL p (rdN X.rs i).1.toNat (rdN X.rs i).2.1.toNat = p ∨ left < (rdN X.rs i).2.2 then none
          else growF X.rs X.s X.K X.long f (i + 1) (left - (rdN X.rs i).2.2) (pjoinL p (rdN X.rs i).1.toNat (rdN X.rs i).2.1.toNat) (l ++ [(i : Int)]) := ⟨_, rfl⟩
      rw [← hF] at hgf
      have HF := Lib.hid (And.intro hgf hF)
      have hF0 : ∀ t, t < i0 → F t = none := fun t ht => by rw [hF]; exact if_pos (.inl ht)
      have HF0 := Lib.hid hF0
      clear hgf hF hF0 hlong
      go_wp2_with fail
      clear c0 c1
      go_loopw [15] (fun iv wx => ∃ (i gq cq : Nat), i ≤ X.n ∧ i0 ≤ i ∧ iv = .int .i64 i ∧ (∀ t, t < i → F t = none) ∧ LsB X wx gq cq l ∧ (gq = gl ∨ w1.heap.size ≤ gq) ∧ Kept w1.heap.size [X.Bl, gl] w1 wx) (fun iv _ => X.n - (intOf iv).toNat)
      case atStart => exact ⟨i0, gl, cap, hi0, Nat.le_refl _, rfl, HF0.out, H.out.2.2.1, .inl rfl, Kept.refl _ _ _⟩
      case round =>
        obtain ⟨i, gq, cq, hin, hi0i, rfl, hno, hls, hgq, hkp⟩ := hrel
        obtain ⟨wo, rfl⟩ : ∃ wo : World, wo = wr := ⟨_, rfl⟩
        have hfo := H.out.2.1.kept H.out.1 H.out.2.2.1.ge hkp
        have HR := Lib.hid (And.intro hno (And.intro hls (And.intro hkp hfo)))
        have hos := hkp.size
        obtain ⟨m1, m2, _, _⟩ := hfo.m.at2
        clear hno hls hkp hfo
        by_cases hlt : i < X.n
        · obtain ⟨r, hr⟩ : ∃ r, X.rs[i]? = some r := ⟨_, List.getElem?_eq_getElem (by have := H.out.1.hl; omega)⟩
          obtain ⟨aR, hRA, _, hcR⟩ := (H.out.1.hR.below HR.out.2.2.2.bel).some_ (by rw [H.out.1.hl]; omega)
          rw [hRA] at m2
          obtain ⟨q1, q2, q3⟩ := hcR i r hr
          obtain ⟨a, b, ea, eb, ⟨ha, hb⟩, _, _, hc1, hc2⟩ := rd_ok H.out.1.hv hr
          have hrd : rdN X.rs (i : Int) = r := by unfold rdN; rw [Int.toNat_natCast, List.getD_eq_getElem?_getD, hr]; rfl
          have hFi : F i = if i < i0 ∨ pjoinL p r.1.toNat r.2.1.toNat = p ∨ left < r.2.2 then none else growF X.rs X.s X.K X.long f (i + 1) (left - r.2.2) (pjoinL p r.1.toNat r.2.1.toNat) (l ++ [(i : Int)]) := by
            rw [HF.out.2]; show (if _ ∨ _ ∨ _ then _ else _) = _; rw [hrd]
          obtain ⟨r1, r2, cc⟩ := r
          simp only at ea eb hc1 hc2 q1 q2 q3
          subst ea; subst eb
          simp only [Int.toNat_natCast] at hFi
          have hpb : Blk wo w.heap.size 75 (arr [x0, x1, x2, x3, x4, x5, x6, x7]) := H.out.2.2.2.2.1.kept HR.out.2.2.1 (by omega) (by simp; omega)
          obtain ⟨⟨b0, b1, b2, b3, b4, b5, b6, b7⟩, _⟩ := hpb.at8
          obtain ⟨wq, hwq⟩ : ∃ wq, wq = wo.alloc (.cells #[.int .i64 x0, .int .i64 x1, .int .i64 x2, .int .i64 x3, .int .i64 x4, .int .i64 x5, .int .i64 x6, .int .i64 x7] 75) := ⟨_, rfl⟩
          have hbq : Below wo.heap.size wo wq := by rw [hwq]; exact (Below.refl _ _).alloc (Nat.le_refl _) _
          have hqB : Blk wq wo.heap.size 75 (arr p) := by rw [hwq, H.out.2.2.2.2.2.1]; exact Blk.new _ _ _ rfl
          have hqs : wq.heap.size = wo.heap.size + 1 := by rw [hwq]; simp
          have HJN := Lib.hid (prjoin_any wo.heap.size a b cc p wq (by rw [H.out.2.2.2.2.2.1]; rfl) ha hb hqB)
          have q1' := (hbq.cell (lt_of_cell q1)).trans q1
          have q2' := (hbq.cell (lt_of_cell q2)).trans q2
          have q3' := (hbq.cell (lt_of_cell q3)).trans q3
          have m2' := (hbq.cell (lt_of_cell m2)).trans m2
          have HQ := Lib.hid (And.intro hbq (And.intro q1 (And.intro q2 (And.intro q3 (And.intro m2 hFi)))))
          have l1 : (i : Int) < (X.n : Int) := by omega
          have l2 : (0 : Int) ≤ (i : Int) := by omega
          have HRr := Lib.hid hr
          clear hpb hbq hqB hFi hr hcR hrd
          rw [hRA] at *
          go_upto_region 8 with fail
          rw [← hwq]
          clear hwq
          go_wp2_with fail
          refine HJN.out.mono ?_
          rintro e w2 ⟨rfl, hq2, hk2⟩
          obtain ⟨y0, y1, y2, y3, y4, y5, y6, y7, hye⟩ := lst8p (show (pjoinL p a b).length = 8 by rw [pjoinL_length, H.out.2.2.2.2.2.1]; rfl)
          rw [hye] at hq2
          have hb2 : Below wo.heap.size wo w2 := HQ.out.1.trans (hk2.mono (B' := wo.heap.size) (S' := []) (by omega) (fun x hx => by simp at hx; right; omega)).below
          obtain ⟨⟨z0, z1, z2, z3, z4, z5, z6, z7⟩, _⟩ := hq2.at8
          have b0' := (hb2.cell (lt_of_cell b0)).trans b0
          have b1' := (hb2.cell (lt_of_cell b1)).trans b1
          have b2' := (hb2.cell (lt_of_cell b2)).trans b2
          have b3' := (hb2.cell (lt_of_cell b3)).trans b3
          have b4' := (hb2.cell (lt_of_cell b4)).trans b4
          have b5' := (hb2.cell (lt_of_cell b5)).trans b5
          have b6' := (hb2.cell (lt_of_cell b6)).trans b6
          have b7' := (hb2.cell (lt_of_cell b7)).trans b7
          have n2 := (hb2.cell (lt_of_cell HQ.out.2.2.2.2.1)).trans HQ.out.2.2.2.2.1
          have p1 := (hb2.cell (lt_of_cell HQ.out.2.1)).trans HQ.out.2.1
          have p2 := (hb2.cell (lt_of_cell HQ.out.2.2.1)).trans HQ.out.2.2.1
          have p3 := (hb2.cell (lt_of_cell HQ.out.2.2.2.1)).trans HQ.out.2.2.2.1
          have hw2s := hb2.size
          have hq2l := hq2.lt
          have H2 := Lib.hid (And.intro hb2 (And.intro hq2 hye))
          clear hb2 hq2 hk2 hye b0 b1 b2 b3 b4 b5 b6 b7 q1 q2 q3 q1' q2' q3' m1 m2 m2' HJN
          have heq := run_eq_parts y0 y1 y2 y3 y4 y5 y6 y7 x0 x1 x2 x3 x4 x5 x6 x7
          rw [← H2.out.2.2, ← H.out.2.2.2.2.2.1] at heq
          have hFi := HQ.out.2.2.2.2.2
          by_cases hsame : pjoinL p a b = p
          · have HN : Hid (F i = none) := Lib.hid (by rw [hFi, if_pos (.inr (.inl hsame))])
            rw [decide_eq_true hsame] at heq
            have hls2 := HR.out.2.1.below H2.out.1
            have hkp2 : Kept w1.heap.size [X.Bl, gl] w1 w2 := HR.out.2.2.1.trans (Kept.of_below (H2.out.1.mono hos) _)
            have HS := Lib.hid (And.intro hls2 hkp2)
            clear hsame hFi hls2 hkp2
            go_wp2_with fail
            go_roundw
            case rel =>
              refine ⟨i + 1, gq, cq, by omega, by omega, by go_num, fun t ht => ?_, HS.out.1, hgq, HS.out.2⟩
              rcases Nat.lt_succ_iff_lt_or_eq.1 ht with h | h
              · exact HR.out.1 t h
              · rw [h]; exact HN.out
            case measure => simp [intOf]; omega
          · rw [decide_eq_false hsame] at heq
            by_cases hdear : left < cc
            · have HN : Hid (F i = none) := Lib.hid (by rw [hFi, if_pos (.inr (.inr hdear))])
              have hls2 := HR.out.2.1.below H2.out.1
              have hkp2 : Kept w1.heap.size [X.Bl, gl] w1 w2 := HR.out.2.2.1.trans (Kept.of_below (H2.out.1.mono hos) _)
              have HS := Lib.hid (And.intro hls2 hkp2)
              clear hsame hFi hls2 hkp2
              go_wp2_with fail
              go_roundw
              case rel =>
                refine ⟨i + 1, gq, cq, by omega, by omega, by go_num, fun t ht => ?_, HS.out.1, hgq, HS.out.2⟩
                rcases Nat.lt_succ_iff_lt_or_eq.1 ht with h | h
                · exact HR.out.1 t h
                · rw [h]; exact HN.out
              case measure => simp [intOf]; omega
            · have HN : Hid (F i = growF X.rs X.s X.K X.long f (i + 1) (left - cc) (pjoinL p a b) (l ++ [(i : Int)])) := Lib.hid (by rw [hFi, if_neg (by rintro (h | h | h); omega; exact hsame h; exact hdear h)])
              have hls2 := HR.out.2.1.below H2.out.1
              have hfx2 := HR.out.2.2.2.below H2.out.1
              have hkp2 : Kept w1.heap.size [X.Bl, gl] w1 w2 := HR.out.2.2.1.trans (Kept.of_below (H2.out.1.mono hos) _)
              have hB2 := hls2.box.at1
              have hown2 := hls2.own
              rw [← HJ.out] at hB2 hown2
              obtain ⟨o1, o2⟩ := hB2
              have HS := Lib.hid (And.intro hls2 (And.intro hfx2 (And.intro hkp2 hown2)))
              have hbs2 : X.top ≤ w2.heap.size := hfx2.bs
              have hgql := hls2.lt
              have hgqb := hls2.ge
              clear hsame hFi hls2 hfx2 hkp2 hown2
              go_upto_region 10 with fail
              go_wp2_with (at_builtin; refine app1w sty_int rfl _ _ rfl X.base (some ⟨gq, 0, none⟩) j cq _ (.int .i64 (i : Int)) (by simp [Value.oneCell']) rfl HS.out.2.2.2 w2.heap.size rfl rfl (by omega) (by omega) ?_)
              intro A3 k3 w3 hown3 hg3 hbl3 hk31 hk32 hst3
              obtain ⟨g3, rfl, hg3b, hg3l⟩ := own_some hown3 (by omega)
              have hs3 := hg3.size
              have o3 := (HS.out.1.box.grown hg3 (fun h3 => by injection h3 with h3; have h3' : X.Bl = gq := h3; have := HS.out.1.ge; omega)).at1
              have hgg : g3 = gq ∨ w2.heap.size ≤ g3 := by
                rcases hst3 _ _ _ rfl with ⟨n1, k1, h⟩ | h
                · injection h with h _ _
                  injection h with h
                  injection h with h
                  exact .inl h.symm
                · exact .inr h
              have hge3 : g3 = X.g0 ∨ X.top ≤ g3 := by have := HS.out.1.ge; omega
              obtain ⟨w4, hw4⟩ : ∃ w4, w4 = w3.setCell ⟨X.Bl, 0, none⟩ (.slice (some ⟨g3, 0, none⟩) (j + 1) k3) := ⟨_, rfl⟩
              have hfx4 : X.fix w4 := by rw [hw4]; exact HS.out.2.1.app H.out.1 HS.out.1.ge hbl3 hg3 _
              have hls4 : LsB X w4 g3 k3 (l ++ [(i : Int)]) := by
                rw [hw4, HJ.out]
                rw [HJ.out] at hown3
                exact HS.out.1.app H.out.1 (i : Int) hg3 hown3 hge3
              have hkp4 : Kept w1.heap.size [X.Bl, gl] w1 w4 := by
                rw [hw4]
                refine ((HS.out.2.2.1.grown hg3 (by have := HS.out.2.2.1.size; omega) (fun k hk => ?_)).setCell (.inl (by simp)) _)
                injection hk with hk
                have hk' : gq = k := hk
                rcases hgq with h | h
                · exact .inl (by rw [← hk', h]; simp)
                · exact .inr (by omega)
              have hq4 : Blk w4 wo.heap.size 75 (arr [y0, y1, y2, y3, y4, y5, y6, y7]) := by
                rw [hw4]
                refine (H2.out.2.1.grown hg3 (fun h => ?_)).far (by show wo.heap.size ≠ X.Bl; omega) _
                injection h with h
                have h' : wo.heap.size = gq := h
                have := HR.out.2.1.lt
                omega
              have hs4 : w4.heap.size = w3.heap.size := by rw [hw4]; simp [World.setCell]
              have hw24 : w2.heap.size ≤ w4.heap.size := by omega
              have hw14 : w1.heap.size ≤ w4.heap.size := by omega
              have hg34 : g3 = gl ∨ w1.heap.size ≤ g3 := by omega
              have HW := Lib.hid (And.intro hw24 (And.intro hw14 hg34))
              have H4 := Lib.hid (And.intro hfx4 (And.intro hls4 (And.intro hkp4 hq4)))
              clear hown3 hg3 hbl3 hst3 o1 o2 hfx4 hls4 hkp4 hq4 z0 z1 z2 z3 z4 z5 z6 z7 b0' b1' b2' b3' b4' b5' b6' b7' n2 p1 p2 p3 heq
              go_upto_region 11 with fail
              rw [← hw4]
              clear hw4 o3
              obtain ⟨m1, m2, _, _⟩ := H4.out.1.m.at2
              have g1 := H4.out.1.g.at1.1
              unfold FX.caps at g1
              obtain ⟨⟨z0, z1, z2, z3, z4, z5, z6, z7⟩, _⟩ := H4.out.2.2.2.at8
              obtain ⟨aR4, hRA4, _, hcR4⟩ := (H.out.1.hR.below H4.out.1.bel).some_ (by rw [H.out.1.hl]; omega)
              rw [hRA4] at m2
              obtain ⟨_, _, q3⟩ := hcR4 i _ HRr.out
              simp only at q3
              obtain ⟨res, hres⟩ : ∃ res, res = growF X.rs X.s X.K X.long f (i + 1) (left - cc) (pjoinL p a b) (l ++ [(i : Int)]) := ⟨_, rfl⟩
              have hrec : ∀ k : Nat, Calls Tryd.prog 64 #[.int .i64 ((i : Int) + 1), .int .i64 (left - cc), .agg #[.int .i64 y0, .int .i64 y1, .int .i64 y2, .int .i64 y3, .int .i64 y4, .int .i64 y5, .int .i64 y6, .int .i64 y7], .pointer (some ⟨X.Bl, 0, none⟩), .pointer (some ⟨X.Blo, 0, none⟩), .pointer (some ⟨X.Bm, 0, none⟩), .pointer (some ⟨X.Bs, 0, none⟩), .pointer (some ⟨X.Bc, 0, none⟩), .pointer (some ⟨X.Bg, 0, none⟩)] (w4.drewN k) (FGrowPost X (w4.drewN k) g3 (l ++ [(i : Int)]) res) := fun k => by
                have h := IH.out (i + 1) g3 k3 (left - cc) (pjoinL p a b) (l ++ [(i : Int)]) (w4.drewN k) (by omega) (by omega) (by rw [List.length_append, ← HJ.out]; show j + 1 ≤ i + 1; omega) (by rw [pjoinL_length, H.out.2.2.2.2.2.1]; rfl) (by have := H.out.2.2.2.2.2.2; omega) (H4.out.1.drewN k) (H4.out.2.1.drewN k)
                rw [← hres, H2.out.2.2, show ((i + 1 : Nat) : Int) = (i : Int) + 1 by push_cast; rfl] at h
                exact h
              have HREC := Lib.hid hrec
              have HNR := Lib.hid (show F i = res by rw [HN.out, hres])
              have ew : wrap64 (left - cc) = left - cc := by have := H.out.2.2.2.2.2.2; unfold wrap64; omega
              clear hrec hres hcR4
              refine wp_region_drew_tail 12 (by kernel_rfl) (by kernel_rfl) ?_
              simp only [List.take_succ_cons, List.take_zero, List.drop_succ_cons, List.drop_zero]
              repeat (go_big_quiet_step (fail))
              refine wpQuiet_nil ?_
              rintro _ ⟨nq, rfl⟩
              go_wp2_with fail
              refine (HREC.out nq).mono ?_
              rintro e w5 ⟨rfl, g5, k5, hls5, hg5, hk5⟩
              have hg5' : g5 = gl ∨ w1.heap.size ≤ g5 := by
                have e4 : (w4.drewN nq).heap.size = w4.heap.size := rfl
                have := HW.out
                rw [e4] at hg5
                omega
              have hkp5 : Kept w1.heap.size [X.Bl, gl] w1 w5 := (H4.out.2.2.1.drewN nq).trans (hk5.mono (by show w1.heap.size ≤ w4.heap.size; exact HW.out.2.1) (fun x hx => by
                have := HW.out.2.2
                simp only [List.mem_cons, List.not_mem_nil, or_false] at hx ⊢
                omega))
              have H5 := Lib.hid (And.intro hls5 (And.intro hg5' hkp5))
              clear hls5 hg5 hk5 hg5' hkp5 m1 m2 g1 z0 z1 z2 z3 z4 z5 z6 z7 q3 HREC
              cases res with
              | some l2 =>
                have HG : Hid (growF X.rs X.s X.K X.long (f + 1) i0 left p l = some l2) := Lib.hid (by rw [HF.out.1]; exact rfs_some HR.out.1 HNR.out _ (by rw [H.out.1.hl]; exact hlt))
                simp only [Option.isSome]
                go_wp2_with fail
                go_ret
                rw [HG.out]
                exact ⟨rfl, g5, k5, H5.out.1, by have := H5.out.2.1; omega, (Kept.of_below H.out.2.2.2.1 _).trans (H5.out.2.2.mono (by omega) (fun x hx => .inl hx))⟩
              | none =>
                have hB5 := H5.out.1.box.at1
                simp only [Option.getD_none, List.length_append, List.length_cons, List.length_nil, Nat.zero_add] at hB5
                rw [← HJ.out] at hB5
                obtain ⟨u1, u2⟩ := hB5
                have hpop : LsB X (w5.setCell ⟨X.Bl, 0, none⟩ (.slice (some ⟨g5, 0, none⟩) j k5)) g5 k5 l := by
                  have h := H5.out.1
                  simp only [Option.getD_none] at h
                  have h2 := h.pop H.out.1
                  rwa [← HJ.out] at h2
                have hcap : j + 1 ≤ k5 := by
                  have h := H5.out.1.own
                  simp only [Option.getD_none] at h
                  obtain ⟨_, _, he, h1, _, _⟩ := own_form h
                  injection he with _ _ he
                  rw [← he, List.length_append, ← HJ.out] at h1
                  exact h1
                have HP := Lib.hid (And.intro hpop (H5.out.2.2.setCell (p := ⟨X.Bl, 0, none⟩) (.inl (by simp)) (.slice (some ⟨g5, 0, none⟩) j k5)))
                have e6 : wrap64 ((j : Int) + 1 - 1) = (j : Int) := by unfold wrap64; omega
                have e7 : (j : Int) + 1 - 1 = (j : Int) := by omega
                have l5 : (j : Int) ≤ (k5 : Int) := by omega
                have l6 : (0 : Int) ≤ (j : Int) := by omega
                clear hpop
                simp only [Option.isSome]
                go_wp2_with fail
                go_roundw
                case rel =>
                  refine ⟨i + 1, g5, k5, by omega, by omega, by go_num, fun t ht => ?_, HP.out.1, H5.out.2.1, HP.out.2⟩
                  rcases Nat.lt_succ_iff_lt_or_eq.1 ht with h | h
                  · exact HR.out.1 t h
                  · rw [h]; exact HNR.out
                case measure => simp [intOf]; omega
        · obtain rfl : i = X.n := by omega
          have HG : Hid (growF X.rs X.s X.K X.long (f + 1) i0 left p l = none) := Lib.hid (by rw [HF.out.1, H.out.1.hl]; exact rfs_none HR.out.1)
          go_wp2_with fail
          go_ret
          rw [HG.out]
          exact ⟨rfl, gq, cq, HR.out.2.1, by omega, (Kept.of_below H.out.2.2.2.1 _).trans (HR.out.2.2.1.mono (by omega) (fun x hx => .inl hx))⟩

/- Contract: first of package route, where some number of roads is enough. -/

/-- The number in the variable that a value points to. -/
def lngOf (v : Value) (w : World) : Nat := match v with
  | .pointer (some a) => ((w.cell? a).map fun u => (intOf u).toNat).getD 0
  | _ => 0
/-- What first finds with so many roads. -/
def firF (rs : List Rd) (s : Nat) (K : Int) (long : Nat) : Option (List Int) := growF rs s K long (rs.length + 1) 0 K p8 []
set_option maxRecDepth 100000 in
set_option maxHeartbeats 3200000 in
theorem rfirst_any (N : Int) (R : Option Addr) (n c : Nat) (rs : List Rd) (s : Nat) (K : Int) (M : Nat) (w : World) (hl : rs.length = n) (hv : mapOk N rs = true) (hR : Rds w R rs) (hs : 1 ≤ s ∧ s < 256) (hK : 0 ≤ K ∧ K ≤ 100000000) (ht : TabW w) (h2 : 2 ≤ w.heap.size)
    (hM : M ≤ 1000000) (hfound : (firF rs s K M).isSome = true) :
    Calls Tryd.prog 44 #[mapV N R n c, .int .i64 s, .int .i64 K] w fun e w' => ∃ (long : Nat) (l : List Int) (A : Option Addr) (cap : Nat), firF rs s K long = some l ∧ e = .returned (.slice A l.length cap) ∧ l.length ≤ cap ∧ cap ≤ 9223372036854775807 ∧ Ints w' A l ∧ Below w.heap.size w w' := by
  obtain ⟨w1, hw1⟩ : ∃ w1, w1 = (((w.alloc (.cells #[.int .i64 N, .slice R n c] 26)).alloc (.cells #[.int .i64 s] 3)).alloc (.cells #[.int .i64 K] 3)).alloc (.cells #[.int .i64 0] 3) := ⟨_, rfl⟩
  have hb1 : Below w.heap.size w w1 := by rw [hw1]; exact ((((Below.refl _ _).alloc (Nat.le_refl _) _).alloc (by simp) _).alloc (by simp; omega) _).alloc (by simp; omega) _
  have hBm : Blk w1 w.heap.size 26 #[.int .i64 N, .slice R n c] := by rw [hw1]; exact (((Blk.new _ _ _ rfl).alloc _).alloc _).alloc _
  have hBs : Blk w1 (w.heap.size + 1) 3 #[.int .i64 s] := by rw [hw1]; exact ((Blk.new _ _ _ (by simp)).alloc _).alloc _
  have hBc : Blk w1 (w.heap.size + 2) 3 #[.int .i64 K] := by rw [hw1]; exact (Blk.new _ _ _ (by simp)).alloc _
  have hBl : Blk w1 (w.heap.size + 3) 3 #[.int .i64 0] := by rw [hw1]; exact Blk.new _ _ _ (by simp)
  have hs1 : w1.heap.size = w.heap.size + 4 := by rw [hw1]; simp
  have H := Lib.hid (And.intro hl (And.intro hv (And.intro hR (And.intro ht (And.intro hb1 (And.intro hBm (And.intro hBs (And.intro hBc hBl))))))))
  have HS1 := Lib.hid hs1
  have HFO := Lib.hid hfound
  clear hl hv hR ht hb1 hBm hBs hBc hBl hs1 hfound
  go_enter Tryd.func44, Tryd.ntmps44
  go_upto_region 3 with fail
  rw [← hw1]
  clear hw1
  go_loopw [7] (fun bv wx => ∃ (long bl : Nat), bv = .pointer (some ⟨bl, 0, none⟩) ∧ Blk wx bl 3 #[.int .i64 long] ∧ (∀ t, t < long → firF rs s K t = none) ∧ Blk wx w.heap.size 26 #[.int .i64 N, .slice R n c] ∧ Blk wx (w.heap.size + 1) 3 #[.int .i64 s] ∧ Blk wx (w.heap.size + 2) 3 #[.int .i64 K] ∧ w.heap.size + 3 ≤ bl ∧ Below w.heap.size w wx) (fun bv wx => M - lngOf bv wx)
  case atStart => exact ⟨0, w.heap.size + 3, rfl, H.out.2.2.2.2.2.2.2.2, fun t ht => by omega, H.out.2.2.2.2.2.1, H.out.2.2.2.2.2.2.1, H.out.2.2.2.2.2.2.2.1, Nat.le_refl _, H.out.2.2.2.2.1⟩
  case round =>
    obtain ⟨long, bl, rfl, hBl, hno, hBm, hBs, hBc, hbl3, hbel⟩ := hrel
    obtain ⟨wo, rfl⟩ : ∃ wo : World, wo = wr := ⟨_, rfl⟩
    have hblt := hBl.lt
    have hlM : long ≤ M := by
      rcases Nat.lt_or_ge M long with h | h
      · have := HFO.out
        rw [hno M h] at this
        cases this
      · exact h
    have hws := hbel.size
    obtain ⟨w3, hw3⟩ : ∃ w3, w3 = ((wo.alloc (.cells #[] 3)).alloc (.cells #[.slice (some ⟨wo.heap.size, 0, none⟩) 0 0] 22)).alloc (.cells #[.func (.func 64) #[] #[.pointer (some ⟨wo.heap.size + 1, 0, none⟩), .pointer (some ⟨bl, 0, none⟩), .pointer (some ⟨w.heap.size, 0, none⟩), .pointer (some ⟨w.heap.size + 1, 0, none⟩), .pointer (some ⟨w.heap.size + 1 + 1, 0, none⟩), .pointer (some ⟨wo.heap.size + 1 + 1, 0, none⟩)]] 96) := ⟨_, rfl⟩
    have hb3 : Below wo.heap.size wo w3 := by rw [hw3]; exact (((Below.refl _ _).alloc (Nat.le_refl _) _).alloc (by simp) _).alloc (by simp; omega) _
    have hs3 : w3.heap.size = wo.heap.size + 3 := by rw [hw3]; simp
    obtain ⟨X, hX⟩ : ∃ X : FX, X = { W0 := w, N := N, R := R, n := n, c := c, rs := rs, s := s, K := K, long := long, Bl := wo.heap.size + 1, Blo := bl, Bm := w.heap.size, Bs := w.heap.size + 1, Bc := w.heap.size + 2, Bg := wo.heap.size + 2, base := wo.heap.size, g0 := wo.heap.size, top := wo.heap.size + 3 } := ⟨_, rfl⟩
    have hok : X.ok := by
      rw [hX]
      exact {
        hl := H.out.1, hv := H.out.2.1, hR := H.out.2.2.1, ht := H.out.2.2.2.1, h2 := h2, hs := hs
        low := by show w.heap.size ≤ wo.heap.size + 1 ∧ wo.heap.size + 1 < wo.heap.size + 3 ∧ wo.heap.size + 1 ≠ wo.heap.size ∧ w.heap.size ≤ wo.heap.size ∧ wo.heap.size ≤ wo.heap.size ∧ wo.heap.size < wo.heap.size + 3; omega
        ne := by show bl ≠ wo.heap.size + 1 ∧ w.heap.size ≠ wo.heap.size + 1 ∧ w.heap.size + 1 ≠ wo.heap.size + 1 ∧ w.heap.size + 2 ≠ wo.heap.size + 1 ∧ wo.heap.size + 2 ≠ wo.heap.size + 1; refine ⟨?_, ?_, ?_, ?_, ?_⟩ <;> omega
        lt := by show bl < wo.heap.size + 3 ∧ w.heap.size < wo.heap.size + 3 ∧ w.heap.size + 1 < wo.heap.size + 3 ∧ w.heap.size + 2 < wo.heap.size + 3 ∧ wo.heap.size + 2 < wo.heap.size + 3; omega
        ng := by show bl ≠ wo.heap.size ∧ w.heap.size ≠ wo.heap.size ∧ w.heap.size + 1 ≠ wo.heap.size ∧ w.heap.size + 2 ≠ wo.heap.size ∧ wo.heap.size + 2 ≠ wo.heap.size; refine ⟨?_, ?_, ?_, ?_, ?_⟩ <;> omega }
    have hfx : X.fix w3 := by
      rw [hX]
      exact ⟨hBl.below hb3 hBl.lt, hBm.below hb3 hBm.lt, hBs.below hb3 hBs.lt, hBc.below hb3 hBc.lt, by rw [hw3]; exact Blk.new _ _ _ (by simp), hbel.trans (hb3.mono hws), by show wo.heap.size + 3 ≤ w3.heap.size; omega⟩
    have hg0 : Blk w3 wo.heap.size 3 #[] := by rw [hw3]; exact ((Blk.new _ _ _ rfl).alloc _).alloc _
    have hls : LsB X w3 wo.heap.size 0 [] := by
      rw [hX]
      refine ⟨by rw [hw3]; exact (Blk.new _ _ _ (by simp)).alloc _, ⟨rfl, .inr ⟨wo.heap.size, 0, #[], rfl, Nat.le_refl _, hg0, by simp, by unfold maxLen; omega, by simp, by simp⟩⟩, .inl rfl⟩
    have hres : firF rs s K long = growF X.rs X.s X.K X.long (n + 1) 0 K p8 [] := by rw [hX]; unfold firF; rw [H.out.1]
    have HL0 := Lib.hid hBl.at1.1
    have HX := Lib.hid (And.intro hok (And.intro hfx (And.intro hls (And.intro hX hres))))
    have HR := Lib.hid (And.intro hno (And.intro hBm (And.intro hBs (And.intro hBc (And.intro hbel hb3)))))
    have kc := (hBc.below hb3 hBc.lt).at1.1
    have kg : w3.cell? ⟨wo.heap.size + 1 + 1, 0, none⟩ = some (.func (.func 64) #[] #[.pointer (some ⟨wo.heap.size + 1, 0, none⟩), .pointer (some ⟨bl, 0, none⟩), .pointer (some ⟨w.heap.size, 0, none⟩), .pointer (some ⟨w.heap.size + 1, 0, none⟩), .pointer (some ⟨w.heap.size + 1 + 1, 0, none⟩), .pointer (some ⟨wo.heap.size + 1 + 1, 0, none⟩)]) := by
      rw [hw3]
      exact (Blk.new (g := wo.heap.size + 1 + 1) _ 96 _ (by simp)).at1.1
    have d1 : ∀ sd : Desc w3, sd.val.cell? ⟨w.heap.size + 1 + 1, 0, none⟩ = some (.int .i64 K) := fun sd => sd.cell kc
    have d2 := fun sd : Desc w3 => sd.cell kg
    have HAP : Hid (∀ sd : Desc w3, Calls Tryd.prog 33 #[] sd.val fun e w'' => e = .returned (ptV p8) ∧ ∃ s' : Desc w3, w'' = s'.val) := Lib.hid fun sd => Calls.desc_of (rapart_any sd.val)
    clear hok hfx hls hX hres hno hBm hBs hBc hbel hb3 hg0 hBl kc kg
    go_upto_region 6 with fail
    rw [← hw3]
    clear hw3
    refine wp_region_desc_tail 3 (by kernel_rfl) (by kernel_rfl) ?_
    simp only [List.take_succ_cons, List.take_zero, List.drop_succ_cons, List.drop_zero]
    repeat (go_big_quiet_step (first | (go_at_call 33; exact HAP.out _)))
    refine wpQuiet_nil ?_
    rintro _ ⟨sd, rfl⟩
    have hb4 := sd.below
    generalize sd.val = w4 at hb4 ⊢
    clear d1 d2
    rw [ptV_p8]
    have hX := HX.out.2.2.2.1
    have hXn : X.n = n := by rw [hX]
    have hcall : Calls Tryd.prog 64 #[.int .i64 0, .int .i64 K, .agg #[.int .i64 0, .int .i64 1, .int .i64 2, .int .i64 3, .int .i64 4, .int .i64 5, .int .i64 6, .int .i64 7], .pointer (some ⟨wo.heap.size + 1, 0, none⟩), .pointer (some ⟨bl, 0, none⟩), .pointer (some ⟨w.heap.size, 0, none⟩), .pointer (some ⟨w.heap.size + 1, 0, none⟩), .pointer (some ⟨w.heap.size + 1 + 1, 0, none⟩), .pointer (some ⟨wo.heap.size + 1 + 1, 0, none⟩)] w4 (FGrowPost X w4 wo.heap.size [] (firF rs s K long)) := by
      have h := rgrow_any X HX.out.1 (n + 1) 0 wo.heap.size 0 K p8 [] w4 (by omega) (by omega) (Nat.le_refl _) rfl hK (HX.out.2.1.below hb4) (HX.out.2.2.1.below hb4)
      rw [← HX.out.2.2.2.2] at h
      have hc : X.caps = #[.pointer (some ⟨wo.heap.size + 1, 0, none⟩), .pointer (some ⟨bl, 0, none⟩), .pointer (some ⟨w.heap.size, 0, none⟩), .pointer (some ⟨w.heap.size + 1, 0, none⟩), .pointer (some ⟨w.heap.size + 1 + 1, 0, none⟩), .pointer (some ⟨wo.heap.size + 1 + 1, 0, none⟩)] := by rw [hX]; rfl
      rw [hc] at h
      exact h
    have HC := Lib.hid hcall
    have hw4s := hb4.size
    have HB4 := Lib.hid hb4
    have hXB : X.Bl = wo.heap.size + 1 ∧ X.g0 = wo.heap.size ∧ X.top = wo.heap.size + 3 ∧ X.Blo = bl ∧ X.Bm = w.heap.size ∧ X.Bs = w.heap.size + 1 ∧ X.Bc = w.heap.size + 2 := by rw [hX]; exact ⟨rfl, rfl, rfl, rfl, rfl, rfl, rfl⟩
    have hXV : X.N = N ∧ X.R = R ∧ X.c = c ∧ X.s = s ∧ X.K = K ∧ X.long = long := by rw [hX]; exact ⟨rfl, rfl, rfl, rfl, rfl, rfl⟩
    have HXB := Lib.hid (And.intro hXB (And.intro hXn hXV))
    clear hcall hb4 hX hXn hXB hXV
    go_wp2_with fail
    refine HC.out.mono ?_
    rintro e w5 ⟨rfl, g5, k5, hls5, hg5, hk5⟩
    obtain ⟨⟨b1, b2, b3, b4, b5, b6, b7⟩, v1, v2, v3, v4, v5, v6, v7⟩ := HXB.out
    have hfx5 := (HX.out.2.1.below HB4.out).kept HX.out.1 (.inl b2.symm) (by rw [← b2] at hk5; rw [← b2]; exact hk5)
    have hbel5 : Below w.heap.size w w5 := by
      have h1 := HR.out.2.2.2.2.1.trans (HR.out.2.2.2.2.2.mono hws)
      have h2 : Below w.heap.size w w4 := h1.trans (HB4.out.mono (by omega))
      refine h2.trans (hk5.mono (B' := w.heap.size) (S' := []) h2.size (fun x hx => ?_)).below
      simp only [List.mem_cons, List.not_mem_nil, or_false] at hx
      right
      omega
    have hlo5 := hfx5.lo
    have hm5 := hfx5.m
    have hs5 := hfx5.s
    have hc5 := hfx5.c
    rw [b4, v7] at hlo5
    rw [b5, v2, v3, v1, v4] at hm5
    rw [b6, v5] at hs5
    rw [b7, v6] at hc5
    have hbx := hls5.box
    rw [b1] at hbx
    have hI5 := hls5.ints
    have hcp5 : (Option.getD (firF rs s K long) []).length ≤ k5 ∧ k5 ≤ 9223372036854775807 := by
      obtain ⟨_, _, he, h1, h2, _⟩ := own_form hls5.own
      injection he with _ _ he
      rw [← he] at h1 h2
      exact ⟨h1, h2⟩
    have H5 := Lib.hid (And.intro hlo5 (And.intro hm5 (And.intro hs5 (And.intro hc5 (And.intro hbel5 (And.intro hbx (And.intro hI5 hcp5)))))))
    clear hlo5 hm5 hs5 hc5 hbel5 hbx hI5 hcp5 hfx5 hls5 hg5 hk5 b1 b2 b3 b4 b5 b6 b7 v1 v2 v3 v4 v5 v6 v7 HC
    cases hres : firF rs s K long with
    | some l =>
      rw [hres] at H5
      have HRS := Lib.hid hres
      clear hres
      obtain ⟨x1, _⟩ := H5.out.2.2.2.2.2.1.at1
      simp only [Option.getD_some] at x1
      simp only [Option.isSome]
      go_wp2_with fail
      go_ret
      exact ⟨long, l, some ⟨g5, 0, none⟩, k5, HRS.out, rfl, H5.out.2.2.2.2.2.2.2.1, H5.out.2.2.2.2.2.2.2.2, H5.out.2.2.2.2.2.2.1, H5.out.2.2.2.2.1⟩
    | none =>
      have HRS := Lib.hid hres
      rw [hres] at H5
      have hlM2 : long < M := by
        rcases Nat.lt_or_ge long M with h | h
        · exact h
        · have e : long = M := by omega
          have := HFO.out
          rw [← e, hres] at this
          cases this
      clear hres
      have hl1 := H5.out.1.at1.1
      have e1 : wrap64 ((long : Int) + 1) = (long : Int) + 1 := by unfold wrap64; omega
      have hbw5 := H5.out.2.2.2.2.1.size
      have hge3 : w.heap.size + 3 ≤ w5.heap.size := by have := H5.out.2.2.2.1.lt; omega
      obtain ⟨w6, hw6⟩ : ∃ w6, w6 = w5.alloc (.cells #[.int .i64 ((long : Int) + 1)] 3) := ⟨_, rfl⟩
      have hnb : Blk w6 w5.heap.size 3 #[.int .i64 ((long + 1 : Nat) : Int)] := by
        rw [hw6, show ((long + 1 : Nat) : Int) = (long : Int) + 1 by push_cast; rfl]
        exact Blk.new _ _ _ rfl
      have HN := Lib.hid (And.intro hnb (And.intro (show Blk w6 w.heap.size 26 #[.int .i64 N, .slice R n c] by rw [hw6]; exact H5.out.2.1.alloc _) (And.intro (show Blk w6 (w.heap.size + 1) 3 #[.int .i64 s] by rw [hw6]; exact H5.out.2.2.1.alloc _) (And.intro (show Blk w6 (w.heap.size + 2) 3 #[.int .i64 K] by rw [hw6]; exact H5.out.2.2.2.1.alloc _) (show Below w.heap.size w w6 by rw [hw6]; exact H5.out.2.2.2.2.1.alloc hbw5 _)))))
      clear hnb
      simp only [Option.isSome]
      go_wp2_with fail
      rw [← hw6]
      clear hw6
      go_roundw
      case rel =>
        refine ⟨long + 1, w5.heap.size, rfl, HN.out.1, fun t ht => ?_, HN.out.2.1, HN.out.2.2.1, HN.out.2.2.2.1, hge3, HN.out.2.2.2.2⟩
        rcases Nat.lt_succ_iff_lt_or_eq.1 ht with h | h
        · exact HR.out.1 t h
        · rw [h]; exact HRS.out
      case measure =>
        have h1 : lngOf (.pointer (some ⟨w5.heap.size, 0, none⟩)) w6 = long + 1 := by
          unfold lngOf
          simp only [HN.out.1.at1.1, Option.map_some, Option.getD_some, intOf, Int.toNat_natCast]
        have h2 : lngOf (.pointer (some ⟨bl, 0, none⟩)) wo = long := by
          unfold lngOf
          simp only [HL0.out, Option.map_some, Option.getD_some, intOf, Int.toNat_natCast]
        rw [h1, h2]
        omega
end Go.Proofs.YtifmekijdepokaaDoor
