/- Contract: the inner function of the iterator over all orders: orders of package vote. -/
import Derived.Test.YtpoibiakfjkebaaTopMiddleM2
namespace Go.Proofs.Ytpoibiakfjkebaa
open Go.RowKit Go.Shelf

attribute [local go_sem] Oper.semAt_some

/-- The orders from the first i numbers on. -/
def ordI (n m : Nat) (po : List Nat) (i : Nat) : List (List Nat) := (List.range i).flatMap fun x => if x ∈ po then [] else Mid.ords (List.range n) m (po ++ [x])
theorem ordI_succ (n m : Nat) (po : List Nat) (i : Nat) : ordI n m po (i + 1) = ordI n m po i ++ if i ∈ po then [] else Mid.ords (List.range n) m (po ++ [i]) := by
  unfold ordI
  rw [List.range_succ, List.flatMap_append]; simp
theorem ordI_all (n m : Nat) (po : List Nat) : ordI n m po n = Mid.ords (List.range n) (m + 1) po := rfl
theorem ordI_le (n m : Nat) (po : List Nat) {i j : Nat} (h : i ≤ j) : ordI n m po i <+: ordI n m po j := by
  induction j with
  | zero => have : i = 0 := by omega
            subst this; exact List.prefix_refl _
  | succ j ih =>
    by_cases e : i = j + 1
    · subst e; exact List.prefix_refl _
    · rw [ordI_succ]; exact (ih (by omega)).trans (List.prefix_append _ _)

/-- What the caller's words must abide. -/
def OX.Ab (X : OX) (J : List (List Nat) → Nat → World → Prop) : Prop :=
  ∀ os o A B, J os o A → Kept A.heap.size [o, X.n0, X.n0 + 1, X.n0 + 2] A B → ∀ o', o' = o ∨ A.heap.size ≤ o' → J os o' B
/-- What a round must do. -/
def OX.Rd (X : OX) (J : List (List Nat) → Nat → World → Prop) (Jx : List (List Nat) → World → Prop) (N : Nat) : Prop :=
  ∀ m os po o W gc c, J os o W → os.length < N → Ints W (some ⟨gc, 0, none⟩) (intL po) → po.length = X.n → Mid.Odr X.n po → X.n0 + 3 ≤ gc → gc ≠ o → gc < W.heap.size → X.n ≤ c → c ≤ 9223372036854775807 →
    YieldAt Fence.wide m Try.prog X.l #[.slice (some ⟨gc, 0, none⟩) X.n c] W fun e W' => (e = .returned (.bool true) ∧ J (os ++ [po]) o W' ∧ Kept W.heap.size X.S W W') ∨ (e = .returned (.bool false) ∧ Jx (os ++ [po]) W')
/-- What the inner function leaves. -/
def OX.GPost (X : OX) (J : List (List Nat) → Nat → World → Prop) (Jx : List (List Nat) → World → Prop) (os : List (List Nat)) (po : List Nat) (L : List (List Nat)) (e : Ending) (W' : World) : Prop :=
  (e = .returned (.bool true) ∧ ∃ o', J (os ++ L) o' W' ∧ X.fix W' ∧ X.pre po o' W') ∨ (e = .returned (.bool false) ∧ ∃ q, q <+: L ∧ Jx (os ++ q) W')

set_option maxRecDepth 100000 in
set_option maxHeartbeats 2000000 in
theorem vgrow_full (X : OX) (hx : X.ok) (J : List (List Nat) → Nat → World → Prop) (Jx : List (List Nat) → World → Prop) (N : Nat) (hJ : X.Ab J) (hY : X.Rd J Jx N) (nn : Nat) (os : List (List Nat)) (po : List Nat) (o : Nat) (W : World)
    (hl : po.length = X.n) (hnd : po.Nodup) (hlt : ∀ x ∈ po, x < X.n) (hf : X.fix W) (hp : X.pre po o W) (hj : J os o W) (hN : os.length + 1 ≤ N) :
    CallsIn Fence.wide nn Try.prog 50 X.caps W (X.GPost J Jx os po [po]) := by
  obtain ⟨A, k, h1, h2, h3, h4, h5, h6, h7⟩ := hp
  obtain ⟨o1, o2⟩ := h1.at1
  have y1 := hf.yb.at1.1
  have n1 := hf.nb
  obtain ⟨hn1, hn5⟩ := hx.hn
  obtain ⟨go, rfl, hgo, hgo2⟩ := own_some h2 (by omega)
  have hgoe : go = o := h3 _ rfl
  subst hgoe
  have hE : ((po.length : Int) == (X.n : Int)) = true := by simp [hl]
  have hIp : Ints W.drew (some ⟨go, 0, none⟩) (intL po) := (At.of_own h2 : Ints W (some ⟨go, 0, none⟩) (intL po)).below (Below.refl _ _).drew
  have hodr := Mid.full_of hl hnd hlt
  have hjd : J os go W.drew := hJ os go W _ hj (Kept.refl _ _ _).drew go (.inl rfl)
  have hC2 : CallsIn Fence.wide (nn - 1) Try.prog 17 #[.slice (some ⟨go, 0, none⟩) X.n k] W.drew fun e W1 => ∃ gc c, e = .returned (.slice (some ⟨gc, 0, none⟩) X.n c) ∧ W1.cell? ⟨X.n0, 0, none⟩ = some (.func (.yield X.l) #[] #[]) ∧
      YieldAt Fence.wide (nn - 1) Try.prog X.l #[.slice (some ⟨gc, 0, none⟩) X.n c] W1 (fun e W' => ∃ b, e = .returned (.bool b) ∧ X.GPost J Jx os po [po] (.returned (.bool b)) W') := by
    refine callsIn_wide.2 ((clone_any (some ⟨go, 0, none⟩) X.n k (intL po) W.drew (by rw [intL_length]; exact hl) (by omega) hIp).mono ?_)
    rintro e W1 ⟨A', c, rfl, hown, hb⟩
    obtain ⟨gc, rfl, hgc, hgc2⟩ := own_some hown (by omega)
    obtain ⟨_, _, he, hc1, hc2, _⟩ := own_form hown
    injection he with _ _ e3
    subst e3
    have hb' : Below W.heap.size W W1 := ((Below.refl W.heap.size W).drew).trans hb
    have hf1 := hf.below hb'
    have hs := hf.size
    have hgcW : W.heap.size ≤ gc := hgc
    refine ⟨gc, c, rfl, hf1.yb.at1.1, ?_⟩
    refine YieldAt.mono (hY (nn - 1) os po go W1 gc c (hJ os go _ W1 hjd (Kept.of_below hb _) go (.inl rfl)) (by omega) (At.of_own hown) hl hodr (by omega) (by omega) hgc2 hc1 hc2) ?_
    rintro e W2 (⟨rfl, hj2, hk2⟩ | ⟨rfl, hx2⟩)
    · refine ⟨true, rfl, .inl ⟨rfl, go, hj2, hf1.round hx hk2, ?_⟩⟩
      exact (OX.pre.below (X := X) (po := po) (o := go) ⟨_, k, h1, h2, h3, h4, h5, h6, h7⟩ hb').round hx hk2
    · exact ⟨false, rfl, .inr ⟨rfl, [po], List.prefix_refl _, hx2⟩⟩
  have HC2 := Lib.hid hC2
  clear hC2 hJ hY hf h1 h2 h3
  unfold OX.caps
  refine callsIn_of_wp Try.func50 rfl trivial ?_ rfl
  simp only [Try.ntmps50, List.size_toArray, List.length_cons, List.length_nil, Nat.reduceAdd, Nat.reduceSub, Array.replicate_succ, Array.replicate_zero, List.push_toArray, List.append_toArray, List.nil_append, List.cons_append]
  gi_wp2
  have hmo : Try.prog.follows Departure.mixedOrders = true := by kernel_rfl
  gi_region_with_o (first
    | (refine ⟨trivial, ?_⟩; (try refine ⟨fun h => (by cases h), ?_⟩); gi_at_call 17; refine HC2.out.mono ?_; rintro e W1 ⟨gc, c, rfl, y2, fn, tmps, assign, body, hy, hR⟩)
    | ((try refine ⟨fun h => (by cases h), ?_⟩); refine hR.mono ?_; clear hR; rintro e W2 ⟨b, rfl, hp⟩))
  all_goals gi_wp2
  all_goals go_ret
  all_goals exact hp
theorem own_popV {w : World} {base e n k : Nat} {A : Option Addr} {xs : List Value} {y : Value} (h : w.ownsRow base e 1 (.slice A (n + 1) k) (n + 1) (xs ++ [y])) : w.ownsRow base e 1 (.slice A n k) n xs := by
  obtain ⟨h1, h2⟩ := h
  have hl : xs.length = n := by simp at h1; omega
  rcases h2 with ⟨h0, hn⟩ | ⟨g, cap, cur, hv, a1, a2, a3, a4, a5, a6⟩
  · omega
  · injection hv with e1 e2 e3
    subst e1; subst e3
    refine ⟨by omega, .inr ⟨g, k, cur, rfl, a1, a2, by omega, a4, a5, ?_⟩⟩
    have h7 := congrArg (List.take (n * 1)) a6
    rw [List.take_take, show min (n * 1) ((n + 1) * 1) = n * 1 by omega, List.take_append_of_le_length (by omega)] at h7
    rw [h7, List.take_of_length_le (by omega)]
theorem own_setCellV {w : World} {base e size n : Nat} {v : Value} {xs : List Value} (h : w.ownsRow base e size v n xs) {p : Addr} (hp : p.block < base) (u : Value) : (w.setCell p u).ownsRow base e size v n xs := by
  obtain ⟨h1, h2⟩ := h
  refine ⟨h1, ?_⟩
  rcases h2 with h2 | ⟨g, cap, cur, hv, a1, a2, a3⟩
  · exact .inl h2
  · exact .inr ⟨g, cap, cur, hv, a1, (Below.heap_setCell w p u g (by omega)).trans a2, a3⟩
theorem intL_snoc (b : List Nat) (x : Nat) : (intL (b ++ [x])).map (Value.int .i64) = (intL b).map (Value.int .i64) ++ [.int .i64 (x : Int)] := by simp [intL]

theorem OX.grow_step {X : OX} (hx : X.ok) {J : List (List Nat) → Nat → World → Prop} (hJ : X.Ab J) {L : List (List Nat)} {wr w3 : World} {A2 A3 : Option Addr} {k2 k3 o2 i : Nat} {po : List Nat}
    (hj : J L o2 wr) (hf : X.fix wr) (g1 : Blk wr (X.n0 + 1) 23 #[.slice A2 po.length k2]) (g2 : wr.ownsRow (X.n0 + 3) 3 1 (.slice A2 po.length k2) po.length ((intL po).map (Value.int .i64))) (g3 : ∀ ad, A2 = some ad → ad.block = o2) (_ : o2 < wr.heap.size) (g5 : o2 = X.n0 + 1 ∨ X.n0 + 3 ≤ o2)
    (hown3 : w3.ownsRow (X.n0 + 3) 3 1 (.slice A3 (po.length + 1) k3) (po.length + 1) ((intL po).map (Value.int .i64) ++ [.int .i64 (i : Int)])) (hg3 : wr.grownBy w3 (Value.slice A2 po.length k2).ownBlock) (hbl3 : Below (X.n0 + 3) wr w3)
    (hk31 : po.length + 1 ≤ k3) (hk32 : k3 ≤ 9223372036854775807) (hst3 : Stay wr (.slice A3 (po.length + 1) k3) (.slice A2 po.length k2)) :
    w3.cell? ⟨X.n0 + 1, 0, none⟩ = some (.slice A2 po.length k2) ∧ w3.frozen? ⟨X.n0 + 1, 0, none⟩ = false ∧ (w3.setCell ⟨X.n0 + 1, 0, none⟩ (.slice A3 (po.length + 1) k3)).cell? ⟨X.n0 + 2, 0, none⟩ = some (.func (.func 50) #[] X.caps) ∧
    ∃ o3, J L o3 (w3.setCell ⟨X.n0 + 1, 0, none⟩ (.slice A3 (po.length + 1) k3)) ∧ X.fix (w3.setCell ⟨X.n0 + 1, 0, none⟩ (.slice A3 (po.length + 1) k3)) ∧ X.pre (po ++ [i]) o3 (w3.setCell ⟨X.n0 + 1, 0, none⟩ (.slice A3 (po.length + 1) k3)) := by
  have hs := hf.size
  have hb1 : Blk w3 (X.n0 + 1) 23 #[.slice A2 po.length k2] := g1.below hbl3 (by omega)
  have hrow : ∀ k, (Value.slice A2 po.length k2).ownBlock = some k → k ∈ [o2, X.n0, X.n0 + 1, X.n0 + 2] ∨ wr.heap.size ≤ k := by
    intro k hk
    cases A2 with
    | none => cases hk
    | some ad =>
      have : ad.block = k := by injection hk
      have := g3 ad rfl
      exact .inl (by simp; omega)
  have hrow2 : ∀ k, (Value.slice A2 po.length k2).ownBlock = some k → k ∈ [o2, X.n0 + 1] ∨ wr.heap.size ≤ k := by
    intro k hk
    cases A2 with
    | none => cases hk
    | some ad =>
      have : ad.block = k := by injection hk
      have := g3 ad rfl
      exact .inl (by simp; omega)
  have K1 : Kept wr.heap.size [o2, X.n0, X.n0 + 1, X.n0 + 2] wr (w3.setCell ⟨X.n0 + 1, 0, none⟩ (.slice A3 (po.length + 1) k3)) :=
    ((Kept.refl _ _ wr).grown hg3 (Nat.le_refl _) hrow).setCell (.inl (by simp)) _
  have K2 : Kept wr.heap.size [o2, X.n0 + 1] wr (w3.setCell ⟨X.n0 + 1, 0, none⟩ (.slice A3 (po.length + 1) k3)) :=
    ((Kept.refl _ _ wr).grown hg3 (Nat.le_refl _) hrow2).setCell (.inl (by simp)) _
  have hf4 := hf.kept hx K2 g5
  obtain ⟨g, rfl, hgb, hglt⟩ := own_some hown3 (by omega)
  have ho3 : g = o2 ∨ wr.heap.size ≤ g := by
    rcases hst3 _ _ _ rfl with ⟨n, k, h⟩ | h
    · injection h with h
      exact .inl (g3 _ h)
    · exact .inr h
  refine ⟨hb1.at1.1, hb1.at1.2, hf4.gb.at1.1, g, hJ L o2 wr _ hj K1 g ho3, hf4, ?_⟩
  refine ⟨some ⟨g, 0, none⟩, k3, ?_, ?_, fun ad h => by injection h with h; rw [← h], by simpa using hglt, .inr hgb, by rw [List.length_append]; simpa using hk31, hk32⟩
  · rw [List.length_append]
    exact hb1.set_ 0 _
  · rw [List.length_append, intL_snoc]
    exact own_setCellV hown3 (by show X.n0 + 1 < X.n0 + 3; omega) _
theorem OX.pop_step {X : OX} (hx : X.ok) {J : List (List Nat) → Nat → World → Prop} (hJ : X.Ab J) {L : List (List Nat)} {w5 : World} {o5 i : Nat} {po : List Nat} (hj : J L o5 w5) (hf : X.fix w5) (hp : X.pre (po ++ [i]) o5 w5) :
    ∃ A5 k5, w5.cell? ⟨X.n0 + 1, 0, none⟩ = some (.slice A5 (po.length + 1) k5) ∧ w5.frozen? ⟨X.n0 + 1, 0, none⟩ = false ∧ po.length + 1 ≤ k5 ∧ k5 ≤ 9223372036854775807 ∧
      J L o5 (w5.setCell ⟨X.n0 + 1, 0, none⟩ (.slice A5 po.length k5)) ∧ X.fix (w5.setCell ⟨X.n0 + 1, 0, none⟩ (.slice A5 po.length k5)) ∧ X.pre po o5 (w5.setCell ⟨X.n0 + 1, 0, none⟩ (.slice A5 po.length k5)) := by
  obtain ⟨A5, k5, h1, h2, h3, h4, h5, h6, h7⟩ := hp
  rw [List.length_append] at h1 h2 h6
  rw [intL_snoc] at h2
  have K1 : Kept w5.heap.size [o5, X.n0, X.n0 + 1, X.n0 + 2] w5 (w5.setCell ⟨X.n0 + 1, 0, none⟩ (.slice A5 po.length k5)) := (Kept.refl _ _ _).setCell (.inl (by simp)) _
  have K2 : Kept w5.heap.size [o5, X.n0 + 1] w5 (w5.setCell ⟨X.n0 + 1, 0, none⟩ (.slice A5 po.length k5)) := (Kept.refl _ _ _).setCell (.inl (by simp)) _
  refine ⟨A5, k5, h1.at1.1, h1.at1.2, by simpa using h6, h7, hJ _ _ _ _ hj K1 _ (.inl rfl), hf.kept hx K2 h5, A5, k5, h1.set_ 0 _, own_setCellV (own_popV h2) (by show X.n0 + 1 < X.n0 + 3; omega) _, h3, by simpa using h4, h5, by simp at h6; omega, h7⟩

set_option maxRecDepth 100000 in
set_option maxHeartbeats 4000000 in
theorem vgrow_any (X : OX) (hx : X.ok) (J : List (List Nat) → Nat → World → Prop) (Jx : List (List Nat) → World → Prop) (N : Nat) (hJ : X.Ab J) (hY : X.Rd J Jx N) (m : Nat) :
    ∀ (nn : Nat) (os : List (List Nat)) (po : List Nat) (o : Nat) (W : World), po.length + m = X.n → po.Nodup → (∀ x ∈ po, x < X.n) → X.fix W → X.pre po o W → J os o W → os.length + (Mid.ords (List.range X.n) m po).length ≤ N →
    CallsIn Fence.wide nn Try.prog 50 X.caps W (X.GPost J Jx os po (Mid.ords (List.range X.n) m po)) := by
  induction m with
  | zero =>
    intro nn os po o W hl hnd hlt hf hp hj hN
    exact vgrow_full X hx J Jx N hJ hY nn os po o W (by omega) hnd hlt hf hp hj (by simpa [Mid.ords] using hN)
  | succ m ih =>
    intro nn os po o W hl hnd hlt hf hp hj hN
    have IH := Lib.hid ih
    obtain ⟨A, k, h1, h2, h3, h4, h5, h6, h7⟩ := hp
    obtain ⟨o1, o2⟩ := h1.at1
    have n1 := hf.nb
    obtain ⟨hn1, hn5⟩ := hx.hn
    have hE : ((po.length : Int) == (X.n : Int)) = false := by rw [beq_eq_false_iff_ne]; omega
    have hp : X.pre po o W := ⟨A, k, h1, h2, h3, h4, h5, h6, h7⟩
    have H := Lib.hid (And.intro hx (And.intro hJ (And.intro hnd (And.intro hlt (And.intro hf (And.intro hp (And.intro hj (And.intro hN hl))))))))
    have hpl : po.length ≤ 4 := by omega
    clear ih hJ hY hf h1 h2 h3 hx hnd hlt hp hj hN hl
    unfold OX.caps
    refine callsIn_of_wp Try.func50 rfl trivial ?_ rfl
    simp only [Try.ntmps50, List.size_toArray, List.length_cons, List.length_nil, Nat.reduceAdd, Nat.reduceSub, Array.replicate_succ, Array.replicate_zero, List.push_toArray, List.append_toArray, List.nil_append, List.cons_append]
    gi_wp2
    gi_loopw [18] (fun iv wr => ∃ i : Nat, i ≤ X.n ∧ iv = .int .i64 i ∧ ∃ o', J (os ++ ordI X.n m po i) o' wr ∧ X.fix wr ∧ X.pre po o' wr) (fun iv _ => X.n - (intOf iv).toNat)
    case atStart => exact ⟨0, Nat.zero_le _, rfl, o, by simpa [ordI] using H.out.2.2.2.2.2.2.1, H.out.2.2.2.2.1, H.out.2.2.2.2.2.1⟩
    case round =>
      obtain ⟨i, hi, rfl, oo, hj, hf, hp⟩ := hrel
      obtain ⟨A2, k2, g1, g2, g3, g4, g5, g6, g7⟩ := hp
      have HR := Lib.hid (And.intro hj (And.intro hf (And.intro g1 (And.intro g2 (And.intro g3 (And.intro g4 (And.intro g5 (And.intro g6 g7))))))))
      obtain ⟨q1, q2⟩ := g1.at1
      have hnm := hf.nm
      clear hj hf g1 g2 g3 g4 g5 g6 g7
      by_cases hlt : i < X.n
      · have c1 : wr.cell? (X.An.add i) = some (.int .i64 (i : Int)) := by
          obtain ⟨ad, he, hc⟩ := hnm i (.int .i64 (i : Int)) (by rw [List.getElem?_map, intL_some (x := i) (by rw [List.getElem?_range hlt])]; rfl)
          injection he with he
          rw [he]; exact hc
        have l1 : (i : Int) < (X.n : Int) := by omega
        have hIp : Ints wr A2 (intL po) := At.of_own HR.out.2.2.2.1
        have HC := Lib.hid (callsIn_wide.2 (contains_any A2 po.length k2 (intL po) (i : Int) wr (intL_length po) (by omega) hIp) : CallsIn Fence.wide (nn - 1) _ _ _ _ _)
        have hhas : has (intL po) (i : Int) = decide (i ∈ po) := by
          unfold has; rw [decide_eq_decide]; exact mem_intL_iff
        rw [hhas] at HC
        clear hnm hIp hhas
        by_cases hm : i ∈ po
        · have HM := Lib.hid hm
          rw [decide_eq_true hm] at HC
          clear hm
          gi_wp2_with (refine ⟨trivial, ?_⟩; (try refine ⟨fun h => (by cases h), ?_⟩); gi_at_call 51; refine HC.out.mono ?_; rintro e w' ⟨rfl, rfl⟩)
          go_roundw
          case rel =>
            refine ⟨i + 1, by omega, by go_num, oo, ?_, HR.out.2.1, ⟨A2, k2, HR.out.2.2⟩⟩
            rw [ordI_succ, if_pos HM.out, List.append_nil]; exact HR.out.1
          case measure => simp [intOf]; omega
        · have HM := Lib.hid hm
          rw [decide_eq_false hm] at HC
          clear hm
          have hsz := HR.out.2.1.size
          gi_wp2_with (first
            | (refine ⟨trivial, ?_⟩; (try refine ⟨fun h => (by cases h), ?_⟩); gi_at_call 51; refine HC.out.mono ?_; rintro e w' ⟨rfl, rfl⟩)
            | (gi_at_builtin; refine app1wIn sty_int rfl _ _ rfl (X.n0 + 3) A2 po.length k2 _ (.int .i64 (i : Int)) rfl rfl HR.out.2.2.2.1 _ rfl rfl (by omega) hsz ?_; intro A3 k3 w3 hown3 hg3 hbl3 hk31 hk32 hst3
               obtain ⟨s1, s2, s3, o3, hj4, hf4, hp4⟩ := OX.grow_step H.out.1 H.out.2.1 HR.out.1 HR.out.2.1 HR.out.2.2.1 HR.out.2.2.2.1 HR.out.2.2.2.2.1 HR.out.2.2.2.2.2.1 HR.out.2.2.2.2.2.2.1 hown3 hg3 hbl3 hk31 hk32 hst3
               have hle := (ordI_le X.n m po (show i + 1 ≤ X.n by omega)).length_le
               have hcall := IH.out (nn - 1) (os ++ ordI X.n m po i) (po ++ [i]) o3 _ (by rw [List.length_append]; have := H.out.2.2.2.2.2.2.2.2; simp; omega) (by
                 rw [List.nodup_append]
                 exact ⟨H.out.2.2.1, by simp, fun a ha b hb e => by rw [List.mem_singleton.1 hb] at e; subst e; exact HM.out ha⟩) (by
                 intro x hxm
                 rcases List.mem_append.1 hxm with h | h
                 · exact H.out.2.2.2.1 x h
                 · simp at h; omega) hf4 hp4 hj4 (by
                 have h1 := H.out.2.2.2.2.2.2.2.1
                 rw [← ordI_all] at h1
                 rw [ordI_succ, if_neg HM.out, List.length_append] at hle
                 rw [List.length_append]; omega)
               have HCALL := Lib.hid hcall
               unfold OX.caps at s3 HCALL
               clear hown3 hg3 hbl3 hk31 hk32 hst3 hj4 hf4 hp4 hle hcall))
          refine ⟨trivial, ?_⟩
          refine ⟨fun h => (by cases h), ?_⟩
          refine HCALL.out.mono ?_
          rintro e w5 (⟨rfl, o5, hj5, hf5, hp5⟩ | ⟨rfl, q, hq, hx5⟩)
          · obtain ⟨A5, k5, t1, t2, t3, t4, hj6, hf6, hp6⟩ := OX.pop_step H.out.1 H.out.2.1 hj5 hf5 hp5
            have H6 := Lib.hid (And.intro hj6 (And.intro hf6 hp6))
            clear hj5 hf5 hp5 hj6 hf6 hp6
            gi_wp2
            go_roundw
            case rel =>
              refine ⟨i + 1, by omega, by go_num, o5, ?_, H6.out.2.1, H6.out.2.2⟩
              rw [ordI_succ, if_neg HM.out, ← List.append_assoc]; exact H6.out.1
            case measure => simp [intOf]; omega
          · have HX := Lib.hid (And.intro hq hx5)
            clear hq hx5
            gi_wp2
            go_ret
            refine .inr ⟨rfl, ordI X.n m po i ++ q, ?_, by rw [← List.append_assoc]; exact HX.out.2⟩
            have h := ordI_le X.n m po (show i + 1 ≤ X.n by omega)
            rw [ordI_succ, if_neg HM.out] at h
            rw [← ordI_all]
            exact List.IsPrefix.trans ((List.prefix_append_right_inj _).2 HX.out.1) h
      · obtain rfl : i = X.n := by omega
        have l1 : ¬ (X.n : Int) < (X.n : Int) := by omega
        gi_wp2
        go_ret
        exact .inl ⟨rfl, oo, by rw [← ordI_all]; exact HR.out.1, HR.out.2.1, ⟨A2, k2, HR.out.2.2⟩⟩
end Go.Proofs.Ytpoibiakfjkebaa
