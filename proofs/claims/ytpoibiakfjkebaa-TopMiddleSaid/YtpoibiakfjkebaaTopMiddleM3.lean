/- Laws and contracts that the proof of TopMiddle uses, part 3. -/
import Derived.Test.YtpoibiakfjkebaaTopMiddleM1
import Derived.Test.YtpoibiakfjkebaaVOrders
import Derived.RangeFuncKeeps
import Derived.Test.YtpoibiakfjkebaaTopMiddleM2
namespace Go.Proofs.Ytpoibiakfjkebaa
open Go.RowKit

/- A function with a body is entered. -/

/-- K is a function with a body. -/
def EntF (K : FuncId) : Prop := ∀ (args : Array Value) (w : World), (callFunc K args).run Try.prog w = .ok (.enter K args) w
theorem entF_of {K : FuncId} {fn : Func} (hf : Try.prog.funcs[K]? = some fn) (hn : (fn.name == "runtime.NumGoroutine") = false) (hb : fn.body.isNone = false) : EntF K := by
  intro args w
  have hn' : fn.name ≠ "runtime.NumGoroutine" := by simpa using hn
  have hb' : fn.body ≠ none := by intro h; rw [h] at hb; cases hb
  simp [callFunc, Sem.run_bind, hf, go_sem]
  rw [if_neg hn', if_neg hb']

/- A law: 'for order := range orders(names)', for whatever body. -/
open Go.RowKit Go.Shelf

theorem Kept.putObj {B : Nat} {S : List Nat} {a w : World} (h : Kept B S a w) {l : Nat} (hl : l ∈ S ∨ B ≤ l) (o : Obj) : Kept B S a (w.putObj l o) :=
  h.trans ⟨rfl, rfl, rfl, by simp, fun k hk hn => World.putObj_heap_other (by rintro rfl; rcases hl with hl | hl; exact hn hl; omega)⟩

/-- How the body of a round may be left. -/
def rngPost (C : List Nat) (I : List (List Nat) → Nat → World → Prop) (Ix : Code → List (List Nat) → World → Prop) (xs : List (List Nat)) (o : Nat) (W : World) : Exit → Act → World → Prop
  | .normal, _, W' => Kept W.heap.size C W W' ∧ I xs o W'
  | .ret, _, W' => Kept W.heap.size C W W' ∧ Ix .ret xs W'
  | .exit id, _, W' => Kept W.heap.size C W W' ∧ Ix (.exit id) xs W'
  | .goto t, _, W' => Kept W.heap.size C W W' ∧ Ix (.goto t) xs W'
  | .panic _, _, _ => False
  | .outgrown, _, _ => False

set_option maxHeartbeats 1000000 in
theorem wpIn_rangeOrders {g : Operand} {ps : Array Tmp} {assign body : Code} {Q : Exit → Act → World → Prop} {a : Act} {w : World} {nf : Nat} (hps : ps.size = 1)
    (Bn : Nat) (An : Addr) (cn n : Nat) (hg : a.eval g = .func (.func 49) #[] #[.pointer (some ⟨Bn, 0, none⟩)]) (hn : 1 ≤ n ∧ n ≤ 5)
    (hnb : w.cell? ⟨Bn, 0, none⟩ = some (.slice (some An) n cn)) (hnm : Ints w (some An) (intL (List.range n)))
    (C : List Nat) (hC : ∀ x ∈ C, x < w.heap.size) (hBC : Bn ∉ C) (hAC : An.block ∉ C)
    (I : List (List Nat) → Nat → World → Prop) (Ix : Code → List (List Nat) → World → Prop)
    (hI : ∀ os o A B o', I os o A → Kept A.heap.size [o, w.heap.size, w.heap.size + 1, w.heap.size + 2, w.heap.size + 3, w.heap.size + 4] A B → (o' = o ∨ A.heap.size ≤ o') → I os o' B)
    (hIx : ∀ c os A B, Ix c os A → Kept A.heap.size [w.heap.size, w.heap.size + 1] A B → Ix c os B)
    (h0 : I [] (w.heap.size + 2) w) (Ax : Value → World → Act → World → Prop) (hAxB : ∀ v W a₁ w₁, Ax v W a₁ w₁ → Below W.heap.size W w₁)
    (hassign : ∀ (l m gc c : Nat) (W : World) (K : Act → World → Prop), (∀ a₁ w₁, Ax (.slice (some ⟨gc, 0, none⟩) n c) W a₁ w₁ → K a₁ w₁) →
      assign.wpIn (Fence.wide.inRound l) m Try.prog (Exit.then K (fun _ _ _ => False)) { tmps := (ps.zip #[.slice (some ⟨gc, 0, none⟩) n c]).foldl (fun t (p, v) => t.setIfInBounds p v) a.tmps, defers := [] } W)
    (hbody : ∀ (l m : Nat) (os : List (List Nat)) (o : Nat) (po : List Nat) (W : World) (gc c : Nat) (a₁ : Act) (w₁ w₂ : World), I os o w₂ → os.length < (Mid.allO n).length → Mid.Odr n po → Ints w₂ (some ⟨gc, 0, none⟩) (intL po) → gc ≠ o →
      w.heap.size + 5 ≤ gc → gc < W.heap.size → n ≤ c → c ≤ 9223372036854775807 → Ax (.slice (some ⟨gc, 0, none⟩) n c) W a₁ w₁ → (∀ k, k ≠ w.heap.size + 1 → w₂.heap[k]? = w₁.heap[k]?) → w₂.heap.size = w₁.heap.size →
      body.wpIn (Fence.wide.inRound l) m Try.prog (rngPost C I Ix (os ++ [po]) o w₂) a₁ w₂)
    (hdone : ∀ (o : Nat) (W : World), I (Mid.allO n) o W → W.heap[w.heap.size]? = some (.deferred (some [])) → Q .normal { a with defers := { target := .collected w.heap.size, args := #[] } :: a.defers } W)
    (hstop : ∀ (c : Code) (q : List (List Nat)) (W : World), q <+: Mid.allO n → Ix c q W → W.heap[w.heap.size]? = some (.deferred (some [])) → c.wpIn Fence.wide nf Try.prog Q { a with defers := { target := .collected w.heap.size, args := #[] } :: a.defers } W) :
    (Code.rangeFunc g ps assign body).wpIn Fence.wide nf Try.prog Q a w := by
  have hBlt := lt_of_cell hnb
  have hBlt' : Bn < w.heap.size := hBlt
  have hAlt : An.block < w.heap.size := by
    obtain ⟨ad, he, hc⟩ := hnm 0 (.int .i64 ((0 : Nat) : Int)) (by rw [List.getElem?_map, intL_some (x := 0) (by rw [List.getElem?_range (by omega)])]; rfl)
    injection he with he
    have := lt_of_cell hc
    rw [add_block, ← he] at this; exact this
  refine wpIn_rangeFunc ?_
  intro fn hfn
  obtain ⟨rec, hrec⟩ : ∃ rec : LoopState → Option Code → Loop, rec = fun st pe => { state := st, pending := pe, fn, tmps := a.tmps, params := ps, assign, body, defers := w.heap.size } := ⟨_, rfl⟩
  obtain ⟨W1, hW1⟩ : ∃ W1, (w.alloc (.deferred (some []))).alloc (.loop (rec .ready none)) = W1 := ⟨_, rfl⟩
  have hz1 : W1.heap.size = w.heap.size + 2 := by rw [← hW1]; simp
  have hL1 : W1.heap[w.heap.size + 1]? = some (.loop (rec .ready none)) := by
    rw [← hW1]; have := World.alloc_heap_new (w.alloc (.deferred (some []))) (.loop (rec .ready none)); rwa [World.size_alloc] at this
  have hK1 : W1.heap[w.heap.size]? = some (.deferred (some [])) := by
    rw [← hW1]; exact (Below.heap_alloc _ _ _ (by simp)).trans (World.alloc_heap_new w _)
  have hb1 : Below w.heap.size w W1 := by
    rw [← hW1]; exact ((Below.refl _ w).alloc (Nat.le_refl _) _).alloc (by simp) _
  have hI1 : I [] (w.heap.size + 2) W1 := hI _ _ w W1 _ h0 (Kept.of_below hb1 _) (.inl rfl)
  refine ⟨w.heap.size + 1, [{ target := .collected w.heap.size, args := #[] }], W1, { target := .fn (.func 49) #[.pointer (some ⟨Bn, 0, none⟩)], args := #[.func (.yield (w.heap.size + 1)) #[] #[]] }, W1, 49,
    #[.func (.yield (w.heap.size + 1)) #[] #[], .pointer (some ⟨Bn, 0, none⟩)], W1, ?_, ?_, ?_, ?_, (fun h => by cases h), ?_⟩
  · rw [← hW1, hrec]; exact run_enterLoop_outer _ _ _ _ _
  · simp only [resolve, hg]
    simp [go_sem]
  · intro f' hf'; trivial
  · have eg := entF_of Try.func49 (by kernel_rfl) (by kernel_rfl)
    unfold EntF at eg
    simp [invoke, go_sem, eg]
  · obtain ⟨X, hX⟩ : ∃ X : OX, X = { l := w.heap.size + 1, Bn, An, cn, n, n0 := w.heap.size + 2, S := (w.heap.size + 1) :: C } := ⟨_, rfl⟩
    have hXok : X.ok := by
      subst hX
      refine ⟨hn, fun x hx => ?_, ⟨fun h => ?_, by show Bn < w.heap.size + 2; omega⟩, fun h => ?_, by show An.block < w.heap.size + 2; omega⟩
      · rcases List.mem_cons.1 hx with rfl | hx
        · show w.heap.size + 1 < w.heap.size + 2; omega
        · have := hC x hx; show x < w.heap.size + 2; omega
      · rcases List.mem_cons.1 h with h | h
        · have h' : Bn = w.heap.size + 1 := h
          omega
        · exact hBC h
      · rcases List.mem_cons.1 h with h | h
        · have h' : An.block = w.heap.size + 1 := h
          omega
        · exact hAC h
    have e1 : X.n0 = w.heap.size + 2 := by rw [hX]
    have e2 : X.l = w.heap.size + 1 := by rw [hX]
    have e3 : X.n = n := by rw [hX]
    have e4 : X.S = (w.heap.size + 1) :: C := by rw [hX]
    have e5 : X.Bn = Bn := by rw [hX]
    have e6 : X.An = An := by rw [hX]
    have e7 : X.cn = cn := by rw [hX]
    clear hX
    obtain ⟨J, hJe⟩ : ∃ J : List (List Nat) → Nat → World → Prop, J = fun os o W => I os o W ∧ W.heap[w.heap.size + 1]? = some (.loop (rec .ready none)) ∧ W.heap[w.heap.size]? = some (.deferred (some [])) ∧ w.heap.size + 2 ≤ o := ⟨_, rfl⟩
    obtain ⟨Jx, hJxe⟩ : ∃ Jx : List (List Nat) → World → Prop, Jx = fun os W => ∃ c, Ix c os W ∧ W.heap[w.heap.size + 1]? = some (.loop (rec .done (some c))) ∧ W.heap[w.heap.size]? = some (.deferred (some [])) := ⟨_, rfl⟩
    have hAb : X.Ab J := by
      subst hJe
      intro os o A B hj hk o' ho'
      obtain ⟨hi, hl, hd, ho⟩ := hj
      have hlt : w.heap.size + 1 < A.heap.size := (Array.getElem?_eq_some_iff.1 hl).1
      refine ⟨hI os o A B o' hi (hk.mono (Nat.le_refl _) (fun x hx => .inl ?_)) ho', (hk.block _ hlt (by simp; omega)).trans hl, (hk.block _ (by omega) (by simp; omega)).trans hd, by omega⟩
      rw [e1] at hx
      simp only [List.mem_cons, List.not_mem_nil, or_false] at hx ⊢
      omega
    have hRd : X.Rd J Jx (Mid.allO X.n).length := by
      subst hJe hJxe
      intro m os po o W gc c hj hlen hIp _ hodr hgc hgo hgW hc1 hc2
      rw [e3] at hlen hodr hc1
      rw [e1] at hgc
      rw [e2, e3, e4]
      obtain ⟨hi, hl, hd, ho⟩ := hj
      have hlt : w.heap.size + 1 < W.heap.size := (Array.getElem?_eq_some_iff.1 hl).1
      have hy := run_yield (P := Try.prog) (args := #[.slice (some ⟨gc, 0, none⟩) n c]) hl (by rw [hrec]; exact hps.symm)
      rw [hrec] at hy
      refine ⟨fn, _, assign, body, hy, roundIn_of_wpIn hfn (hassign _ m gc c W _ fun a₁ w₁ hax => ?_)⟩
      have hbw := hAxB _ _ _ _ hax
      have hlw : w₁.heap[w.heap.size + 1]? = some (.loop (rec .ready none)) := (hbw.block _ hlt).trans hl
      have hdw : w₁.heap[w.heap.size]? = some (.deferred (some [])) := (hbw.block _ (by omega)).trans hd
      have hltw : w.heap.size + 1 < w₁.heap.size := (Array.getElem?_eq_some_iff.1 hlw).1
      refine ⟨_, run_beginRound hlw (by rw [hrec]), ?_⟩
      obtain ⟨w₂, hw₂⟩ : ∃ w₂, w₂ = w₁.putObj (w.heap.size + 1) (.loop { rec .ready none with state := .busy }) := ⟨_, rfl⟩
      rw [← hw₂]
      have hz2 : w₂.heap.size = w₁.heap.size := by rw [hw₂]; simp
      have hl2 : w₂.heap[w.heap.size + 1]? = some (.loop { rec .ready none with state := .busy }) := by rw [hw₂]; exact World.putObj_heap_same hltw
      have hd2 : w₂.heap[w.heap.size]? = some (.deferred (some [])) := by rw [hw₂]; exact (World.putObj_heap_other (by omega)).trans hdw
      have hK2 : Kept W.heap.size [w.heap.size + 1] W w₂ := by rw [hw₂]; exact (Kept.of_below hbw _).putObj (.inl (by simp)) _
      have hi2 : I os o w₂ := hI os o W w₂ o hi (hK2.mono (Nat.le_refl _) (fun x hx => .inl (by simp at hx ⊢; omega))) (.inl rfl)
      have hIp2 : Ints w₂ (some ⟨gc, 0, none⟩) (intL po) := by
        intro i v hv
        obtain ⟨ad, he, hcell⟩ := hIp i v hv
        injection he with he
        refine ⟨ad, by rw [he], ?_⟩
        rw [hK2.cell (by rw [add_block, ← he]; exact hgW) (by rw [add_block, ← he]; simp; omega)]; exact hcell
      have hbod := hbody (w.heap.size + 1) m os o po W gc c a₁ w₁ w₂ hi2 hlen hodr hIp2 hgo (by omega) hgW hc1 hc2 hax (fun k hk => by rw [hw₂]; exact World.putObj_heap_other hk) hz2
      refine wpIn_mono hbod ?_
      have fin : ∀ (jump : Option Code) (W3 : World), Kept w₂.heap.size C w₂ W3 →
          (Instr.endRound (w.heap.size + 1) jump).run Try.prog W3 = .ok (.bool jump.isNone) (W3.putObj (w.heap.size + 1) (.loop (rec (if jump.isNone then .ready else .done) jump))) ∧
          w.heap.size + 1 < W3.heap.size ∧
          (W3.putObj (w.heap.size + 1) (.loop (rec (if jump.isNone then .ready else .done) jump))).heap[w.heap.size + 1]? = some (.loop (rec (if jump.isNone then .ready else .done) jump)) ∧
          (W3.putObj (w.heap.size + 1) (.loop (rec (if jump.isNone then .ready else .done) jump))).heap[w.heap.size]? = some (.deferred (some [])) ∧
          Kept W.heap.size ((w.heap.size + 1) :: C) W (W3.putObj (w.heap.size + 1) (.loop (rec (if jump.isNone then .ready else .done) jump))) := fun jump W3 hk3 => by
        have hn1 : w.heap.size + 1 ∉ C := fun h => by have := hC _ h; omega
        have hn0 : w.heap.size ∉ C := fun h => by have := hC _ h; omega
        have hl3 : W3.heap[w.heap.size + 1]? = some (.loop { rec .ready none with state := .busy }) := (hk3.block _ (by omega) hn1).trans hl2
        have hd3 : W3.heap[w.heap.size]? = some (.deferred (some [])) := (hk3.block _ (by omega) hn0).trans hd2
        have hlt3 : w.heap.size + 1 < W3.heap.size := (Array.getElem?_eq_some_iff.1 hl3).1
        have := run_endRound (P := Try.prog) jump hl3
        rw [hrec] at this ⊢
        refine ⟨this, hlt3, World.putObj_heap_same hlt3, (World.putObj_heap_other (by omega)).trans hd3, ?_⟩
        have hsz := hK2.size
        exact ((hK2.mono (Nat.le_refl _) (fun x hx => .inl (by simp at hx; simp [hx]))).trans (hk3.mono hsz (fun x hx => .inl (List.mem_cons_of_mem _ hx)))).putObj (.inl List.mem_cons_self) _
      have bk : ∀ (W3 : World) (ob : Obj), Kept W3.heap.size [w.heap.size, w.heap.size + 1] W3 (W3.putObj (w.heap.size + 1) ob) := fun W3 ob => (Kept.refl _ _ _).putObj (.inl (by simp)) _
      rintro e a3 W3 hp
      cases e with
      | normal =>
        obtain ⟨hk3, hi3⟩ := hp
        obtain ⟨hr, _, hl4, hd4, hk4⟩ := fin none W3 hk3
        refine ⟨_, _, hr, .inl ⟨rfl, ⟨hI _ _ W3 _ o hi3 ((bk W3 _).mono (Nat.le_refl _) (fun x hx => .inl (by simp at hx ⊢; omega))) (.inl rfl), hl4, hd4, ho⟩, hk4⟩⟩
      | ret =>
        obtain ⟨hk3, hi3⟩ := hp
        obtain ⟨hr, _, hl4, hd4, hk4⟩ := fin (some .ret) W3 hk3
        exact ⟨_, _, hr, .inr ⟨rfl, .ret, hIx _ _ W3 _ hi3 (bk W3 _), hl4, hd4⟩⟩
      | exit id =>
        obtain ⟨hk3, hi3⟩ := hp
        obtain ⟨hr, _, hl4, hd4, hk4⟩ := fin (some (.exit id)) W3 hk3
        exact ⟨_, _, hr, .inr ⟨rfl, .exit id, hIx _ _ W3 _ hi3 (bk W3 _), hl4, hd4⟩⟩
      | goto t =>
        obtain ⟨hk3, hi3⟩ := hp
        obtain ⟨hr, _, hl4, hd4, hk4⟩ := fin (some (.goto t)) W3 hk3
        exact ⟨_, _, hr, .inr ⟨rfl, .goto t, hIx _ _ W3 _ hi3 (bk W3 _), hl4, hd4⟩⟩
      | panic ch => exact hp.elim
      | outgrown => exact hp.elim
    have hcall := vorders1_any X hXok J Jx hAb hRd (nf - 1) W1 (by rw [e1, hz1]) (by rw [e3, e5, e6, e7]; exact (hb1.cell hBlt).trans hnb) (by rw [e3, e6]; exact hnm.below hb1) (by subst hJe; exact ⟨by rw [e1]; exact hI1, hL1, hK1, by omega⟩)
    rw [e2, e3, e5] at hcall
    refine hcall.mono ?_
    have bk : ∀ (W3 : World) (ob : Obj), Kept W3.heap.size [w.heap.size, w.heap.size + 1] W3 (W3.putObj (w.heap.size + 1) ob) := fun W3 ob => (Kept.refl _ _ _).putObj (.inl (by simp)) _
    subst hJe hJxe
    rintro e W2 ⟨⟨v, rfl⟩, (⟨o', hi, hl, hk, _⟩ | ⟨q, hq, c, hi, hl, hk⟩)⟩
    · exact ⟨none, _, by have := run_endLoop (P := Try.prog) hl (by rw [hrec]; simp); rw [hrec] at this; exact this, hdone o' _ (hI _ _ W2 _ o' hi ((bk W2 _).mono (Nat.le_refl _) (fun x hx => .inl (by simp at hx ⊢; omega))) (.inl rfl)) ((World.putObj_heap_other (by omega)).trans hk)⟩
    · exact ⟨some c, _, by have := run_endLoop (P := Try.prog) hl (by rw [hrec]; simp); rw [hrec] at this; exact this, hstop c q _ hq (hIx _ _ W2 _ hi (bk W2 _)) ((World.putObj_heap_other (by omega)).trans hk)⟩
end Go.Proofs.Ytpoibiakfjkebaa
