/- Laws and contracts that the proof of SplitBest uses, part 3. -/
import Derived.Test.YtkljambjdiblkaaSplitBestM1
import Derived.Deep.LoopGhost
import Derived.Test.YtkljambjdiblkaaSValues
import Derived.Test.YtkljambjdiblkaaSplitBestM2
namespace Go.Proofs.Ytkljambjdiblkaa
open Go.RowKit

/- Contract: each of package split, for whatever function it is called with. -/

theorem info_intD : (Try.prog.info? 3).map (fun i => (i.zero, i.size, i.bytes)) = some (some (.int .i64 0), 1, 8) := by kernel_rfl
/-- make(division, n). -/
theorem make_div (n : Nat) (hn : n ≤ 1000000) (w : World) : (Instr.makeSlice 64 (.int .i64 n) (.int .i64 n)).run Try.prog w = .ok (.slice (some ⟨w.heap.size, 0, none⟩) n n) (w.alloc (.cells (arr (List.replicate n 0)) 3)) := by
  obtain ⟨i0, hi, hz0, hz1, hz2⟩ := info_parts info_intD
  have hr := run_make (P := Try.prog) w 64 3 i0 (.int .i64 0) Try.underlying64 hi hz0 .i64 .i64 n n (by omega) (by omega) (by rw [hz2]; omega) (by omega)
  simp only [Int.toNat_natCast, hz1] at hr
  rw [hr, arr_zeros]

/-- What a call of the function leaves. -/
def EachPost (Inv : Nat → World → Prop) (Done : World → Prop) (n m t D : Nat) (e : Ending) (w' : World) : Prop :=
  (e = .returned (.bool true) ∧ Inv (t + 1) w' ∧ Blk w' D 3 (arr (dz n m t))) ∨ (e = .returned (.bool false) ∧ Done w')
/-- What each leaves. -/
def EachEnd (Inv : Nat → World → Prop) (Done : World → Prop) (k : Nat) (e : Ending) (w' : World) : Prop := e = .returned (.tuple #[]) ∧ (Inv k w' ∨ Done w')

/-- K is a function with a body. -/
def Ent (K : FuncId) : Prop := ∀ (args : Array Value) (w : World), (callFunc K args).run Try.prog w = .ok (.enter K args) w
theorem ent_of {K : FuncId} {fn : Func} (hf : Try.prog.funcs[K]? = some fn) (hn : (fn.name == "runtime.NumGoroutine") = false) (hb : fn.body.isNone = false) : Ent K := by
  intro args w
  have hn' : fn.name ≠ "runtime.NumGoroutine" := by simpa using hn
  have hb' : fn.body ≠ none := by intro h; rw [h] at hb; cases hb
  simp [callFunc, Sem.run_bind, hf, go_sem]
  rw [if_neg hn', if_neg hb']

set_option maxRecDepth 100000 in
set_option maxHeartbeats 1600000 in
theorem each_any (K : FuncId) (caps : Array Value) (A : Option Addr) (n cap m : Nat) (V : List (List Int)) (w : World) (Inv : Nat → World → Prop) (Done : World → Prop) (hK : Ent K)
    (hl : V.length = n) (hn : 1 ≤ n ∧ n ≤ 4) (hm : m = (rowV V 0).length) (hm7 : 1 ≤ m ∧ m ≤ 7) (hV : Mat w A V)
    (hst : Inv 0 (w.alloc (.cells (arr (List.replicate m 0)) 3)))
    (hset : ∀ t w' i v, Inv t w' → Inv t (w'.setCell ⟨w.heap.size, i, none⟩ v))
    (hcall : ∀ t w', t < n ^ m → Inv t w' → Blk w' w.heap.size 3 (arr (dz n m t)) → Calls Try.prog K (#[.slice (some ⟨w.heap.size, 0, none⟩) m m] ++ caps) w' (EachPost Inv Done n m t w.heap.size)) :
    Calls Try.prog 51 #[.slice A n cap, .func (.func K) #[] caps] w (EachEnd Inv Done (n ^ m)) := by
  have hmk := make_div m (by omega)
  unfold Ent at hK
  have H := Lib.hid (And.intro hl (And.intro hm (And.intro hV (And.intro hst (And.intro hset hcall)))))
  clear hl hm hV hst hset hcall
  go_enter Try.func51, Try.ntmps51
  go_wp2_with fail
  refine (goods_any A n cap m V _ H.out.1 hn.1 (by omega) H.out.2.1 (by omega) H.out.2.2.1).mono ?_
  rintro e w' ⟨rfl, rfl⟩
  go_wp2_with fail
  go_loopg [] (n ^ m) (fun g wr => ∃ t : Nat, t < n ^ m ∧ g = n ^ m - t ∧ Inv t wr ∧ Blk wr w.heap.size 3 (arr (dz n m t)))
  case atStart => exact ⟨0, Nat.pow_pos (by omega), by simp, H.out.2.2.2.1, by rw [dz_zero]; exact Blk.new _ _ _ rfl⟩
  case round =>
    obtain ⟨t, ht, hgk, hInv, hB⟩ := hrel
    have HG := Lib.hid (And.intro ht hgk)
    have hc := H.out.2.2.2.2.2 t wr ht hInv hB
    have HC := Lib.hid hc
    clear ht hgk hInv hB hc
    go_wp2_with fail
    refine HC.out.mono ?_
    rintro e w2 (⟨rfl, hI2, hB2⟩ | ⟨rfl, hD2⟩)
    · obtain ⟨ht, hgk⟩ := HG.out
      have H2 := Lib.hid (And.intro hI2 hB2)
      have em : IntKind.i64.wrap ((m : Int) - 1) = (m : Int) - 1 := IntWalk.i64_in _ (by omega)
      clear hI2 hB2 ht hgk
      go_wp2_with fail
      go_loopg [5] (m + 1) (fun g gv wr => ∃ k j q : Nat, g = k + 1 ∧ k + j = m ∧ gv = .int .i64 ((k : Int) - 1) ∧ t + 1 = (q + 1) * n ^ j ∧ Inv (t + 1) wr ∧ Blk wr w.heap.size 3 (arr (dzs n k j q)))
      case atStart => exact ⟨m, 0, t, rfl, rfl, rfl, by simp, H2.out.1, by rw [dzs_start]; exact H2.out.2⟩
      case round =>
        obtain ⟨k, j, q, rfl, hkj, rfl, htq, hI, hB⟩ := hrel
        have HR := Lib.hid (And.intro htq (And.intro hI hB))
        clear htq hI hB
        by_cases hk0 : k = 0
        · subst hk0
          have hfin : t + 1 = n ^ m := by
            obtain ⟨htq, _, _⟩ := HR.out
            obtain ⟨ht, _⟩ := HG.out
            obtain rfl : j = m := by omega
            have h1 : (q + 1) * n ^ j ≤ 1 * n ^ j := by rw [Nat.one_mul]; omega
            have hpos : 0 < n ^ j := Nat.pow_pos (by omega)
            have h2 := Nat.le_of_mul_le_mul_right h1 hpos
            have : q = 0 := by omega
            subst this
            omega
          have HF := Lib.hid hfin
          clear hfin
          go_wp2_with fail
          go_end0
          exact ⟨rfl, .inl (by rw [← HF.out]; exact HR.out.2.1)⟩
        · obtain ⟨k', rfl⟩ : ∃ k', k = k' + 1 := ⟨k - 1, by omega⟩
          have eg : ((k' + 1 : Nat) : Int) - 1 = (k' : Int) := by omega
          rw [eg]
          clear eg
          obtain ⟨r, hr⟩ : ∃ r, r = q % n := ⟨_, rfl⟩
          have hrn : r < n := by rw [hr]; exact Nat.mod_lt _ (by omega)
          have c1 : wr.cell? ⟨w.heap.size, k', none⟩ = some (.int .i64 (r : Int)) := by rw [HR.out.2.2.cell, arr_get, dzs_get, hr]; rfl
          have f1 : wr.frozen? ⟨w.heap.size, k', none⟩ = false := HR.out.2.2.frozen k'
          have l1 : (k' : Int) < (m : Int) := by omega
          have l2 : (0 : Int) ≤ (k' : Int) := by omega
          have HQ := Lib.hid hr
          clear hr
          by_cases hlast : r = n - 1
          · have hb : ((r : Int) == (n : Int) - 1) = true := by rw [beq_iff_eq]; omega
            have HL := Lib.hid hlast
            clear hlast
            go_wp2_with fail
            go_roundg (k' + 1)
            case measure => omega
            case rel =>
              refine ⟨k', j + 1, q / n, rfl, by omega, rfl, last_on (by omega) HR.out.1 (by rw [← HQ.out]; exact HL.out), H.out.2.2.2.2.1 _ _ _ _ HR.out.2.1, ?_⟩
              rw [← dzs_on, ← arr_set]
              exact HR.out.2.2.set_ k' _
          · have hb : ((r : Int) == (n : Int) - 1) = false := by rw [beq_eq_false_iff_ne]; omega
            have hlt : q % n < n - 1 := by rw [← HQ.out]; omega
            have hup := dzs_up (k := k') (j := j) hlt
            have hnl := not_last (k := k') (j := j) (t := t) (by rw [show k' + 1 + j = m from by omega]; exact HG.out.1) HR.out.1 hlt
            rw [← HQ.out, ← HR.out.1, show k' + 1 + j = m from by omega] at hup
            rw [show k' + 1 + j = m from by omega] at hnl
            have HU := Lib.hid (And.intro hup hnl)
            clear hlt hup hnl hlast
            go_wp2_with fail
            go_roundg (n ^ m - (t + 1))
            case measure => have := HG.out; have := HU.out.2; omega
            case rel =>
              refine ⟨t + 1, HU.out.2, rfl, H.out.2.2.2.2.1 _ _ _ _ HR.out.2.1, ?_⟩
              rw [← HU.out.1, ← arr_set]
              exact HR.out.2.2.set_ k' _
    · have HD := Lib.hid hD2
      clear hD2
      go_wp2_with fail
      go_end0
      exact ⟨rfl, .inr HD.out⟩

/- Contract: slices.Clone of a division. -/

set_option maxHeartbeats 400000 in
theorem cloneD_any (A : Option Addr) (n cap : Nat) (xs : List Int) (w : World) (hl : xs.length = n) (hm : n ≤ 1000000000) (h : Ints w A xs) :
    Calls Try.prog 53 #[.slice A n cap] w fun e w' => ∃ A' c, e = .returned (.slice A' n c) ∧ w'.ownsRow w.heap.size 3 1 (.slice A' n c) n (xs.map (Value.int .i64)) ∧ Below w.heap.size w w' := by
  have qT : ∀ (w : World) (a : Option Addr) (n c n' c' : Nat), (binOp .eql 64 (.slice a n c) (.slice none n' c')).run Try.prog w = .ok (.bool a.isNone) w := fun w a n c n' c' => Lib.run_eql_slice_nil w _ _ a n c n' c' Try.underlying64
  obtain ⟨i0, hi, hz0, hz1, hz2⟩ := info_parts info_int
  rcases A with _ | ad
  · have h0 : xs = [] := by
      cases xs with
      | nil => rfl
      | cons x l => obtain ⟨ad, e, _⟩ := h 0 (.int .i64 x) rfl; cases e
    subst h0
    obtain rfl : n = 0 := by simpa using hl.symm
    clear h hl
    go_enter Try.func53, Try.ntmps53
    go_wp2
    go_ret
    exact ⟨none, 0, rfl, World.ownsRow_nil _ _ _ _, Below.refl _ _⟩
  · have HL := Lib.hid hl
    have HC := Lib.hid (At.some2 h)
    clear hl h
    go_enter Try.func53, Try.ntmps53
    go_wp2_with (at_builtin; refine wpList_append_own _ rfl _ _ 64 rfl w.heap.size 3 i0 (.int .i64 0) 1 8 Try.underlying64 hi hz0 hz1 hz2 rfl (by decide) _ 0 [] rfl (World.ownsRow_made w #[] 0 (Nat.le_refl _) (by decide) rfl) ad n cap (xs.map (Value.int .i64)) rfl ?c1 ?c2 ?c3 ?c4 ?c5 ?c6 ?_)
    case c1 => simpa using HL.out
    case c2 => exact At.new HC.out
    case c3 => exact ints_one xs
    case c4 => unfold maxLen; omega
    case c5 => omega
    case c6 => go_size
    intro v' w1 hown hgrow _
    obtain ⟨A', c, rfl, _⟩ := own_form hown
    go_wp2
    go_ret
    refine ⟨A', c, by simp, by simpa using hown, ?_⟩
    exact (((Below.refl _ _).alloc (Nat.le_refl _) _)).grown hgrow (by go_size) (by intro k hk; simp [Value.ownBlock] at hk; omega)

/- Contract: best of package split, for whatever score it is called with. -/

/-- The first of the first t divisions with the greatest score. -/
def bst (S : Nat → List Int) : Nat → Nat
  | 0 => 0
  | t + 1 => if t = 0 then 0 else if 0 < cmpL (S t) (S (bst S t)) then t else bst S t
theorem bst_lt (S : Nat → List Int) (t : Nat) (h : 0 < t) : bst S t < t := by
  induction t with
  | zero => omega
  | succ t ih =>
    simp only [bst]
    split
    · omega
    · split
      · omega
      · have := ih (by omega); omega

/-- What best works on. -/
structure SBX where
  w0 : World
  B : Nat
  n : Nat
  m : Nat
  K : FuncId
  caps : Array Value
  S : Nat → List Int
/-- The best so far. -/
def SBX.cur (X : SBX) (t : Nat) (w : World) : Prop :=
  (t = 0 → Blk w (X.B + 1) 64 #[.slice none 0 0] ∧ Blk w (X.B + 2) 23 #[.slice none 0 0]) ∧
  (0 < t → ∃ A c Am k cm, Blk w (X.B + 1) 64 #[.slice (some A) X.m c] ∧ X.m ≤ c ∧ c ≤ 9223372036854775807 ∧ Ints w (some A) (dz X.n X.m (bst X.S t)) ∧ X.B + 3 < A.block ∧
    Blk w (X.B + 2) 23 #[.slice Am k cm] ∧ k = (X.S (bst X.S t)).length ∧ k ≤ cm ∧ cm ≤ 9223372036854775807 ∧ Ints w Am (X.S (bst X.S t)) ∧ ∀ ad, Am = some ad → X.B + 3 < ad.block)
def SBX.inv (X : SBX) (t : Nat) (w : World) : Prop := Below X.B X.w0 w ∧ Blk w X.B 100 #[.func (.func X.K) #[] X.caps] ∧ X.cur t w

theorem ints_far {w : World} {A : Option Addr} {xs : List Int} (h : Ints w A xs) {p : Addr} (hp : ∀ ad, A = some ad → ad.block ≠ p.block) (v : Value) : Ints (w.setCell p v) A xs := by
  intro i u hu
  obtain ⟨ad, hA, hc⟩ := h i u hu
  refine ⟨ad, hA, ?_⟩
  rw [World.cell?_of_block (w := w) (Below.heap_setCell w p v _ (by rw [add_block]; exact hp ad hA))]
  exact hc
theorem SBX.cur_set {X : SBX} {t : Nat} {w : World} (h : X.cur t w) (i : Nat) (v : Value) : X.cur t (w.setCell ⟨X.B + 3, i, none⟩ v) := by
  refine ⟨fun h0 => ?_, fun h0 => ?_⟩
  · obtain ⟨h1, h2⟩ := h.1 h0
    exact ⟨h1.far (by show X.B + 1 ≠ X.B + 3; omega) _, h2.far (by show X.B + 2 ≠ X.B + 3; omega) _⟩
  · obtain ⟨A, c, Am, k, cm, h1, h1a, h1b, h2, h3, h4, h5, h5a, h5b, h6, h7⟩ := h.2 h0
    exact ⟨A, c, Am, k, cm, h1.far (by show X.B + 1 ≠ X.B + 3; omega) _, h1a, h1b, ints_far h2 (fun ad ha => by injection ha with ha; subst ha; show A.block ≠ X.B + 3; omega) _, h3, h4.far (by show X.B + 2 ≠ X.B + 3; omega) _, h5, h5a, h5b,
      ints_far h6 (fun ad ha => by have := h7 ad ha; show ad.block ≠ X.B + 3; omega) _, h7⟩
theorem SBX.inv_set {X : SBX} {t : Nat} {w : World} (h : X.inv t w) (i : Nat) (v : Value) : X.inv t (w.setCell ⟨X.B + 3, i, none⟩ v) :=
  ⟨h.1.setCell (by show X.B ≤ X.B + 3; omega) _, h.2.1.far (by show X.B ≠ X.B + 3; omega) _, SBX.cur_set h.2.2 i v⟩

/-- What the score answers. -/
def ScorePost (S : List Int) (w' : World) (e : Ending) (w'' : World) : Prop := ∃ A c, e = .returned (.slice A S.length c) ∧ w''.ownsRow w'.heap.size 3 1 (.slice A S.length c) S.length (S.map (Value.int .i64)) ∧ Below w'.heap.size w' w''

set_option maxRecDepth 100000 in
set_option maxHeartbeats 1600000 in
theorem best1_any (X : SBX) (hm7 : 1 ≤ X.m ∧ X.m ≤ 7) (hK : Ent X.K) (hS : ∀ t, (X.S t).length ≤ 1000) (t : Nat) (w : World)
    (hscore : Calls Try.prog X.K (#[.slice (some ⟨X.B + 3, 0, none⟩) X.m X.m] ++ X.caps) w (ScorePost (X.S t) w))
    (hinv : X.inv t w) (hD : Blk w (X.B + 3) 3 (arr (dz X.n X.m t))) :
    Calls Try.prog 101 #[.slice (some ⟨X.B + 3, 0, none⟩) X.m X.m, .pointer (some ⟨X.B, 0, none⟩), .pointer (some ⟨X.B + 1, 0, none⟩), .pointer (some ⟨X.B + 2, 0, none⟩)] w (EachPost X.inv (fun _ => False) X.n X.m t (X.B + 3)) := by
  have qT : ∀ (w : World) (a : Option Addr) (n c n' c' : Nat), (binOp .eql 64 (.slice a n c) (.slice none n' c')).run Try.prog w = .ok (.bool a.isNone) w := fun w a n c n' c' => Lib.run_eql_slice_nil w _ _ a n c n' c' Try.underlying64
  unfold Ent at hK
  obtain ⟨hbl, hof, hcur⟩ := hinv
  obtain ⟨o1, o2⟩ := hof.at1
  have hDw := hD.lt
  have HSC := Lib.hid hscore
  have H := Lib.hid (And.intro hbl (And.intro hof (And.intro hcur hD)))
  have HS := Lib.hid hS
  clear hbl hof hcur hD hscore hS
  go_enter Try.func101, Try.ntmps101
  go_wp2_with fail
  refine HSC.out.mono ?_
  rintro e w1 ⟨A1, c1, rfl, hown1, hb1⟩
  have hI1 : Ints w1 A1 (X.S t) := At.of_own hown1
  obtain ⟨_, _, he, hc11, hc12, _⟩ := own_form hown1
  injection he with e1 _ e3
  subst e1; subst e3
  have hA1 : ∀ ad, A1 = some ad → w.heap.size ≤ ad.block := by
    intro ad ha
    rcases hown1.2 with ⟨h, _⟩ | ⟨g, cap, cur, hv, hg, _⟩
    · rw [ha] at h; cases h
    · injection hv with h1
      rw [ha] at h1
      injection h1 with h1
      rw [h1]; exact hg
  obtain ⟨k1, hk1⟩ : ∃ k, k = (X.S t).length := ⟨_, rfl⟩
  have hk1b : k1 ≤ 1000 := by rw [hk1]; exact HS.out t
  rw [← hk1] at hc11 ⊢
  have hw1 := hb1.size
  have hD1 := H.out.2.2.2.below hb1 hDw
  have hID : Ints w1 (some ⟨X.B + 3, 0, none⟩) (dz X.n X.m t) := blk_ints hD1
  have hof1 := H.out.2.1.below hb1 (by omega)
  have hbl1 : Below X.B X.w0 w1 := H.out.1.trans (hb1.mono (by omega))
  have H1 := Lib.hid (And.intro hI1 (And.intro hb1 (And.intro hD1 (And.intro hof1 (And.intro hbl1 (And.intro hA1 (And.intro hk1 hID)))))))
  clear hown1 hI1 hb1 hD1 hof1 hbl1 hA1 hk1 hID
  -- what is left behind the two stores
  have fin : ∀ (w2 : World) (A2 : Addr) (c2 : Nat) (w5 : World), bst X.S (t + 1) = t → Below w1.heap.size w1 w2 → Ints w2 (some A2) (dz X.n X.m t) → w1.heap.size ≤ A2.block → X.m ≤ c2 → c2 ≤ 9223372036854775807 →
      Blk w2 (X.B + 1) 64 #[.slice none 0 0] ∧ Blk w2 (X.B + 2) 23 #[.slice none 0 0] ∨ (∃ v1 v2, Blk w2 (X.B + 1) 64 #[v1] ∧ Blk w2 (X.B + 2) 23 #[v2]) →
      w5 = (w2.setCell ⟨X.B + 1, 0, none⟩ (.slice (some A2) X.m c2)).setCell ⟨X.B + 2, 0, none⟩ (.slice A1 k1 c1) →
      X.inv (t + 1) w5 ∧ Blk w5 (X.B + 3) 3 (arr (dz X.n X.m t)) := by
    intro w2 A2 c2 w5 hbst hb2 hI2 hA2 hc21 hc22 hout hw5
    obtain ⟨hI1, hb1, hD1, hof1, hbl1, hA1, hk1, hID⟩ := H1.out
    have ho : ∃ v1 v2, Blk w2 (X.B + 1) 64 #[v1] ∧ Blk w2 (X.B + 2) 23 #[v2] := by
      rcases hout with ⟨h1, h2⟩ | h
      · exact ⟨_, _, h1, h2⟩
      · exact h
    obtain ⟨v1, v2, g1, g2⟩ := ho
    have q1 : Blk w5 (X.B + 1) 64 #[.slice (some A2) X.m c2] := by
      rw [hw5]; exact (g1.set_ 0 _).far (by show X.B + 1 ≠ X.B + 2; omega) _
    have q2 : Blk w5 (X.B + 2) 23 #[.slice A1 k1 c1] := by
      rw [hw5]; exact (g2.far (by show X.B + 2 ≠ X.B + 1; omega) _).set_ 0 _
    refine ⟨⟨?_, ?_, ?_⟩, ?_⟩
    · rw [hw5]; exact ((hbl1.trans (hb2.mono (by omega))).setCell (by show X.B ≤ X.B + 1; omega) _).setCell (by show X.B ≤ X.B + 2; omega) _
    · rw [hw5]; exact ((hof1.below hb2 (by omega)).far (by show X.B ≠ X.B + 1; omega) _).far (by show X.B ≠ X.B + 2; omega) _
    · refine ⟨fun h => by omega, fun _ => ?_⟩
      rw [hbst]
      refine ⟨A2, c2, A1, k1, c1, q1, hc21, hc22, ?_, by omega, q2, hk1, hc11, hc12, ?_, fun ad ha => by have := hA1 ad ha; omega⟩
      · rw [hw5]
        refine ints_far (ints_far hI2 (fun ad ha => ?_) _) (fun ad ha => ?_) _
        · injection ha with ha; subst ha; show A2.block ≠ X.B + 1; omega
        · injection ha with ha; subst ha; show A2.block ≠ X.B + 2; omega
      · rw [hw5]
        refine ints_far (ints_far (hI1.below hb2) (fun ad ha => ?_) _) (fun ad ha => ?_) _
        · have := hA1 ad ha; show ad.block ≠ X.B + 1; omega
        · have := hA1 ad ha; show ad.block ≠ X.B + 2; omega
    · rw [hw5]
      exact ((hD1.below hb2 (by omega)).far (by show X.B + 3 ≠ X.B + 1; omega) _).far (by show X.B + 3 ≠ X.B + 2; omega) _
  have FIN := Lib.hid fin
  clear fin
  by_cases h0 : t = 0
  · obtain ⟨g1, g2⟩ := H.out.2.2.1.1 h0
    have g1' := g1.below H1.out.2.1 (by omega)
    have g2' := g2.below H1.out.2.1 (by omega)
    obtain ⟨p1, p2⟩ := g1'.at1
    have HP := Lib.hid (And.intro g1' g2')
    have hBst : Hid (bst X.S (t + 1) = t) := Lib.hid (by rw [h0]; simp [bst])
    clear g1 g2 g1' g2' h0
    go_wp2_with fail
    refine (cloneD_any (some ⟨X.B + 3, 0, none⟩) X.m X.m (dz X.n X.m t) _ (by rw [dz_length]) (by omega) H1.out.2.2.2.2.2.2.2).mono ?_
    rintro e w2 ⟨A2, c2, rfl, hown2, hb2⟩
    have hI2 : Ints w2 A2 (dz X.n X.m t) := At.of_own hown2
    obtain ⟨g, rfl, hg, _⟩ := own_some hown2 (by omega)
    obtain ⟨_, _, he2, hc21, hc22, _⟩ := own_form hown2
    injection he2 with e4 _ e5
    subst e4
    subst e5
    have g1 := HP.out.1.below hb2 (by omega)
    have g2 := HP.out.2.below hb2 (by omega)
    obtain ⟨p3, p4⟩ := g1.at1
    obtain ⟨p5, p6⟩ := g2.at1
    have H2 := Lib.hid (FIN.out w2 ⟨g, 0, none⟩ c2 _ hBst.out hb2 hI2 hg hc21 hc22 (.inl ⟨g1, g2⟩) rfl)
    clear hown2 hI2 g1 g2 hb2 p1 p2
    go_wp2_with fail
    go_ret
    exact .inl ⟨rfl, H2.out⟩
  · obtain ⟨A, c, Am, k, cm, h1, h1a, h1b, h2, h3, h4, h5, h5a, h5b, h6, h7⟩ := H.out.2.2.1.2 (by omega)
    have g1' := h1.below H1.out.2.1 (by omega)
    have g2' := h4.below H1.out.2.1 (by omega)
    obtain ⟨p1, p2⟩ := g1'.at1
    obtain ⟨p3, p4⟩ := g2'.at1
    have hkb : k ≤ 1000 := by rw [h5]; exact HS.out _
    have hstep : bst X.S (t + 1) = if 0 < cmpL (X.S t) (X.S (bst X.S t)) then t else bst X.S t := by rw [bst, if_neg h0]
    have HP := Lib.hid (And.intro g1' (And.intro g2' (And.intro (h2.below H1.out.2.1) (And.intro (h6.below H1.out.2.1) (And.intro h5 (And.intro h7 hstep))))))
    clear h1 h2 h4 h5 h6 h7 g1' g2' hstep
    go_wp2_with fail
    refine (compare_any A1 Am k1 k c1 cm (X.S t) (X.S (bst X.S t)) _ H1.out.2.2.2.2.2.2.1.symm HP.out.2.2.2.2.1.symm hk1b hkb H1.out.1 HP.out.2.2.2.1).mono ?_
    rintro e w' ⟨rfl, rfl⟩
    have hcb := cmpL_bd (X.S t) (X.S (bst X.S t))
    have hst2 := HP.out.2.2.2.2.2.2
    obtain ⟨cv, hcv⟩ : ∃ cv, cv = cmpL (X.S t) (X.S (bst X.S t)) := ⟨_, rfl⟩
    rw [← hcv] at hcb hst2 ⊢
    have HST := Lib.hid hst2
    clear hst2 hcv
    by_cases hgt : 0 < cv
    · have hBst : Hid (bst X.S (t + 1) = t) := Lib.hid (by rw [HST.out, if_pos hgt])
      go_wp2_with fail
      refine (cloneD_any (some ⟨X.B + 3, 0, none⟩) X.m X.m (dz X.n X.m t) _ (by rw [dz_length]) (by omega) H1.out.2.2.2.2.2.2.2).mono ?_
      rintro e w2 ⟨A2, c2, rfl, hown2, hb2⟩
      have hI2 : Ints w2 A2 (dz X.n X.m t) := At.of_own hown2
      obtain ⟨g, rfl, hg, _⟩ := own_some hown2 (by omega)
      obtain ⟨_, _, he2, hc21, hc22, _⟩ := own_form hown2
      injection he2 with e4 _ e5
      subst e4
      subst e5
      have g1 := HP.out.1.below hb2 (by omega)
      have g2 := HP.out.2.1.below hb2 (by omega)
      clear p1 p2 p3 p4
      obtain ⟨p3, p4⟩ := g1.at1
      obtain ⟨p5, p6⟩ := g2.at1
      have H2 := Lib.hid (FIN.out w2 ⟨g, 0, none⟩ c2 _ hBst.out hb2 hI2 hg hc21 hc22 (.inr ⟨_, _, g1, g2⟩) rfl)
      clear hown2 hI2 g1 g2 hb2
      go_wp2_with fail
      go_ret
      exact .inl ⟨rfl, H2.out⟩
    · have hBst : Hid (bst X.S (t + 1) = bst X.S t) := Lib.hid (by rw [HST.out, if_neg hgt])
      go_wp2_with fail
      go_ret
      refine .inl ⟨rfl, ⟨H1.out.2.2.2.2.1, H1.out.2.2.2.1, ⟨fun h => by omega, fun _ => ?_⟩⟩, H1.out.2.2.1⟩
      rw [hBst.out]
      exact ⟨A, c, Am, k, cm, HP.out.1, h1a, h1b, HP.out.2.2.1, h3, HP.out.2.1, HP.out.2.2.2.2.1, h5a, h5b, HP.out.2.2.2.1, HP.out.2.2.2.2.2.1⟩

theorem ent_best1 : Ent 101 := ent_of Try.func101 (by kernel_rfl) (by kernel_rfl)

/-- What best leaves. -/
def BestPost (n m : Nat) (S : Nat → List Int) (b : Nat) (w : World) (e : Ending) (w' : World) : Prop :=
  ∃ A c Am cm, e = .returned (.tuple #[.slice (some A) m c, .slice Am (S b).length cm]) ∧ m ≤ c ∧ c ≤ 9223372036854775807 ∧ Ints w' (some A) (dz n m b) ∧ (S b).length ≤ cm ∧ cm ≤ 9223372036854775807 ∧ Ints w' Am (S b) ∧ Below w.heap.size w w'

set_option maxRecDepth 100000 in
set_option maxHeartbeats 1600000 in
theorem best_any (A : Option Addr) (n cap m : Nat) (V : List (List Int)) (K2 : FuncId) (caps2 : Array Value) (S : Nat → List Int) (w : World) (hK : Ent K2) (hS : ∀ t, (S t).length ≤ 1000)
    (hl : V.length = n) (hn : 1 ≤ n ∧ n ≤ 4) (hm : m = (rowV V 0).length) (hm7 : 1 ≤ m ∧ m ≤ 7) (hV : Mat w A V)
    (hscore : ∀ t w', t < n ^ m → Below w.heap.size w w' → Blk w' (w.heap.size + 3) 3 (arr (dz n m t)) → Calls Try.prog K2 (#[.slice (some ⟨w.heap.size + 3, 0, none⟩) m m] ++ caps2) w' (ScorePost (S t) w')) :
    Calls Try.prog 76 #[.slice A n cap, .func (.func K2) #[] caps2] w (BestPost n m S (bst S (n ^ m)) w) := by
  have H := Lib.hid (And.intro hK (And.intro hS (And.intro hl (And.intro hm (And.intro hV hscore)))))
  clear hK hS hl hm hV hscore
  go_enter Try.func76, Try.ntmps76
  go_wp2_with fail
  obtain ⟨hK, hS, hl, hm, hV, hscore⟩ := H.out
  obtain ⟨X, hX⟩ : ∃ X : SBX, X = { w0 := w, B := w.heap.size, n := n, m := m, K := K2, caps := caps2, S := S } := ⟨_, rfl⟩
  have e1 : X.B = w.heap.size := by rw [hX]
  have hb3 : ∀ o1 o2 o3, Below w.heap.size w (((w.alloc o1).alloc o2).alloc o3) := fun o1 o2 o3 => (((Below.refl _ _).alloc (by go_size) _).alloc (by go_size) _).alloc (by go_size) _
  have hz : ∀ o1 o2 o3 : Obj, (((w.alloc o1).alloc o2).alloc o3).heap.size = w.heap.size + 3 := fun o1 o2 o3 => by simp
  refine (each_any 101 #[.pointer (some ⟨w.heap.size, 0, none⟩), .pointer (some ⟨w.heap.size + 1, 0, none⟩), .pointer (some ⟨w.heap.size + 1 + 1, 0, none⟩)] A n cap m V _ X.inv (fun _ => False) ent_best1 hl hn hm hm7 (hV.below (hb3 _ _ _)) ?hst ?hset ?hcall).mono ?_
  case hst =>
    have b1 : Blk ((((w.alloc (.cells #[.func (.func K2) #[] caps2] 100)).alloc (.cells #[.slice none 0 0] 64)).alloc (.cells #[.slice none 0 0] 23)).alloc (.cells (arr (List.replicate m 0)) 3)) w.heap.size 100 #[.func (.func K2) #[] caps2] := (((Blk.new _ _ _ rfl).alloc _).alloc _).alloc _
    have b2 : Blk ((((w.alloc (.cells #[.func (.func K2) #[] caps2] 100)).alloc (.cells #[.slice none 0 0] 64)).alloc (.cells #[.slice none 0 0] 23)).alloc (.cells (arr (List.replicate m 0)) 3)) (w.heap.size + 1) 64 #[.slice none 0 0] := ((Blk.new _ _ _ (by simp)).alloc _).alloc _
    have b3 : Blk ((((w.alloc (.cells #[.func (.func K2) #[] caps2] 100)).alloc (.cells #[.slice none 0 0] 64)).alloc (.cells #[.slice none 0 0] 23)).alloc (.cells (arr (List.replicate m 0)) 3)) (w.heap.size + 2) 23 #[.slice none 0 0] := (Blk.new _ _ _ (by simp)).alloc _
    rw [hX]
    exact ⟨(hb3 _ _ _).alloc (by simp; omega) _, b1, fun _ => ⟨b2, b3⟩, fun h => by omega⟩
  case hset =>
    intro t w' i v h
    rw [hz]
    have := SBX.inv_set h i v
    rwa [e1] at this
  case hcall =>
    intro t w' ht hinv hB
    rw [hz] at hB ⊢
    have hsc := hscore t w' ht (by have h := hinv.1; rw [hX] at h; exact h) hB
    have h := best1_any X (by rw [hX]; exact hm7) (by rw [hX]; exact hK) (by rw [hX]; exact hS) t w' (by rw [hX]; exact hsc) hinv (by rw [hX]; exact hB)
    rw [hX] at h ⊢
    exact h
  rintro e w' ⟨rfl, hi | hi⟩
  · have hpos : 0 < n ^ m := Nat.pow_pos (by omega)
    have hc := hi.2.2.2 hpos
    have hbl := hi.1
    rw [hX] at hc hbl
    obtain ⟨A', c, Am, k, cm, h1, h1a, h1b, h2, h3, h4, h5, h5a, h5b, h6, h7⟩ := hc
    obtain ⟨p1, p2⟩ := h1.at1
    obtain ⟨p3, p4⟩ := h4.at1
    simp only at p1 p2 p3 p4 h1a h5 h5a
    have HF := Lib.hid (And.intro h2 (And.intro h6 (And.intro hbl (And.intro h5 (And.intro h1a h5a)))))
    clear h1 h2 h3 h4 h5 h6 h7 hbl hi hz hb3 hK hS hl hm hV hscore hX e1 h1a h5a
    go_wp2_with fail
    go_quiet (fail)
    go_wp2_with fail
    go_ret2
    refine ⟨A', c, Am, cm, by rw [← HF.out.2.2.2.1]; rfl, HF.out.2.2.2.2.1, h1b, HF.out.1, by rw [← HF.out.2.2.2.1]; exact HF.out.2.2.2.2.2, h5b, HF.out.2.1, below_drewN HF.out.2.2.1 _⟩
  · exact hi.elim

/- Contract: the score of Nash (package split): how many people have something, and the product of what they have. -/

/-- How many of the list are above 0, and their product. -/
def posN : List Int → Int
  | [] => 0
  | x :: l => posN l + if 0 < x then 1 else 0
def posP : List Int → Int
  | [] => 1
  | x :: l => posP l * if 0 < x then x else 1
theorem posN_snoc (l : List Int) (x : Int) : posN (l ++ [x]) = posN l + if 0 < x then 1 else 0 := by
  induction l with
  | nil => simp [posN]
  | cons y l ih => simp only [List.cons_append, posN, ih]; omega
theorem posP_snoc (l : List Int) (x : Int) : posP (l ++ [x]) = posP l * if 0 < x then x else 1 := by
  induction l with
  | nil => simp [posP]
  | cons y l ih => simp only [List.cons_append, posP, ih]; exact Int.mul_right_comm _ _ _
theorem posN_take {l : List Int} {k : Nat} {x : Int} (h : l[k]? = some x) : posN (l.take (k + 1)) = posN (l.take k) + if 0 < x then 1 else 0 := by
  rw [List.take_add_one, h]; exact posN_snoc _ _
theorem posP_take {l : List Int} {k : Nat} {x : Int} (h : l[k]? = some x) : posP (l.take (k + 1)) = posP (l.take k) * if 0 < x then x else 1 := by
  rw [List.take_add_one, h]; exact posP_snoc _ _
theorem posN_bd (l : List Int) : 0 ≤ posN l ∧ posN l ≤ l.length := by
  induction l with
  | nil => simp [posN]
  | cons y l ih => simp only [posN, List.length_cons]; split <;> omega
theorem posP_bd (l : List Int) (h : ∀ x ∈ l, x ≤ 1000) : 1 ≤ posP l ∧ posP l ≤ 1000 ^ l.length := by
  induction l with
  | nil => simp [posP]
  | cons y l ih =>
    obtain ⟨a, b⟩ := ih fun x hx => h x (List.mem_cons_of_mem _ hx)
    have hy := h y (List.mem_cons_self ..)
    simp only [posP, List.length_cons]
    split
    · refine ⟨Int.le_trans (by omega) (Int.mul_le_mul a (show (1 : Int) ≤ y by omega) (by omega) (by omega)), ?_⟩
      rw [Int.pow_succ]
      exact Int.mul_le_mul b hy (by omega) (Int.pow_nonneg (by omega))
    · rw [Int.mul_one, Int.pow_succ]
      refine ⟨a, Int.le_trans b ?_⟩
      have : (0 : Int) ≤ 1000 ^ l.length := Int.pow_nonneg (by omega)
      omega

/-- The score of Nash. -/
def nashS (V : List (List Int)) (d : List Int) (n : Nat) : List Int := [posN (ownV V d n), posP (ownV V d n)]

theorem own_bd {V : List (List Int)} {d : List Int} {n : Nat} (hr : ∀ i, i < n → (rowV V i).length = d.length ∧ ∀ x ∈ rowV V i, 0 ≤ x ∧ x ≤ 100) (hd : d.length ≤ 7) : ∀ x ∈ ownV V d n, 0 ≤ x ∧ x ≤ 1000 := by
  intro x hx
  obtain ⟨i, hi, rfl⟩ := List.mem_map.1 hx
  have h := worTo_bd (hr i (List.mem_range.1 hi)).2 d (i : Int) d.length
  unfold wor
  omega

theorem own_new {w : World} (e : TypeId) (cs : Array Value) (h : cs.size ≤ maxLen) : (w.alloc (.cells cs e)).ownsRow w.heap.size e 1 (.slice (some ⟨w.heap.size, 0, none⟩) cs.size cs.size) cs.size cs.toList :=
  ⟨by simp, .inr ⟨w.heap.size, cs.size, cs, rfl, Nat.le_refl _, Blk.new w e cs rfl, Nat.le_refl _, h, by simp, by rw [List.take_of_length_le (by simp)]⟩⟩

set_option maxRecDepth 100000 in
set_option maxHeartbeats 1600000 in
theorem nash1_any (A : Option Addr) (n cap : Nat) (D : Option Addr) (m capd Bv : Nat) (V : List (List Int)) (d : List Int) (w : World) (hv : w.cell? ⟨Bv, 0, none⟩ = some (.slice A n cap)) (hl : V.length = n) (hn : n ≤ 4) (hld : d.length = m) (hm : m ≤ 7)
    (hr : ∀ i, i < n → (rowV V i).length = m ∧ ∀ x ∈ rowV V i, 0 ≤ x ∧ x ≤ 100) (hV : Mat w A V) (hD : Ints w D d) :
    Calls Try.prog 77 #[.slice D m capd, .pointer (some ⟨Bv, 0, none⟩)] w (ScorePost (nashS V d n) w) := by
  have H := Lib.hid (And.intro hl (And.intro hld (And.intro hr (And.intro hV hD))))
  have HB := Lib.hid (own_bd (V := V) (d := d) (n := n) (by rw [hld]; exact hr) (by omega))
  clear hl hld hr hV hD
  go_enter Try.func77, Try.ntmps77
  go_wp2_with fail
  refine (own_any A n cap D m capd V d _ H.out.1 (by omega) H.out.2.1 (by omega) H.out.2.2.1 H.out.2.2.2.1 H.out.2.2.2.2).mono ?_
  rintro e w1 ⟨A1, c1, rfl, hown, hb⟩
  have hI : Ints w1 A1 (ownV V d n) := At.of_own hown
  obtain ⟨o, ho⟩ : ∃ o, o = ownV V d n := ⟨_, rfl⟩
  have hol : o.length = n := by rw [ho, ownV_length]
  rw [← ho] at hI
  have HO := Lib.hid ho
  have HB' : Hid (∀ x ∈ o, 0 ≤ x ∧ x ≤ 1000) := Lib.hid (by rw [ho]; exact HB.out)
  have HI := Lib.hid (And.intro hI (And.intro hb hol))
  have hz := hb.size
  clear hown hI hb ho hol HB H
  go_wp2_with fail
  go_loop [4, 5, 12] (fun cv pv i => ∃ k : Nat, k ≤ n ∧ i = .int .i64 k ∧ cv = .int .i64 (posN (o.take k)) ∧ pv = .int .i64 (posP (o.take k))) (fun _ _ i => n - (intOf i).toNat)
  case atStart => exact ⟨0, Nat.zero_le _, rfl, rfl, rfl⟩
  case round =>
    obtain ⟨k, hk, rfl, rfl, rfl⟩ := hrel
    by_cases hlt : k < n
    · obtain ⟨x, hx⟩ : ∃ x, o[k]? = some x := ⟨_, List.getElem?_eq_getElem (by have := HI.out.2.2; omega)⟩
      obtain ⟨ad, rfl, hc⟩ := HI.out.1 k (.int .i64 x) (by rw [List.getElem?_map, hx]; rfl)
      have hx1 := HB'.out x (List.mem_of_getElem? hx)
      have hnb := posN_bd (o.take k)
      have hpb := posP_bd (o.take k) (fun x hx => (HB'.out x (List.mem_of_mem_take hx)).2)
      have hlen : (o.take k).length = k := by rw [List.length_take]; have := HI.out.2.2; omega
      rw [hlen] at hnb hpb
      have hpb2 : posP (o.take k) ≤ 1000000000 := by
        have : k ≤ 3 := by omega
        have h2 : ((1000 : Int) ^ k) ≤ 1000000000 := by
          have hk3 : k = 0 ∨ k = 1 ∨ k = 2 ∨ k = 3 := by omega
          rcases hk3 with rfl | rfl | rfl | rfl <;> decide
        omega
      have HN := Lib.hid (posN_take hx)
      have HP := Lib.hid (posP_take hx)
      generalize posN (o.take k) = cn at *
      generalize posP (o.take k) = pp at *
      have hmul : 0 ≤ pp * x ∧ pp * x ≤ 1000000000000 := ⟨Int.mul_nonneg (by omega) hx1.1, Int.le_trans (Int.mul_le_mul hpb2 hx1.2 hx1.1 (by omega)) (by omega)⟩
      have l1 : (k : Int) < (n : Int) := by omega
      clear hx hlen
      by_cases hpos : 0 < x
      · rw [if_pos hpos] at HN HP
        go_wp2_with fail
        go_round
        case rel => exact ⟨k + 1, by omega, by go_num, by rw [HN.out], by rw [HP.out]⟩
        case measure => simp [intOf]; omega
      · rw [if_neg hpos] at HN HP
        go_wp2_with fail
        go_round
        case rel => exact ⟨k + 1, by omega, by go_num, by rw [HN.out, Int.add_zero], by rw [HP.out, Int.mul_one]⟩
        case measure => simp [intOf]; omega
    · obtain rfl : n = k := by omega
      have HT : Hid (o.take n = o) := Lib.hid (List.take_of_length_le (by have := HI.out.2.2; omega))
      go_wp2_with fail
      go_ret
      rw [HT.out]
      unfold ScorePost nashS
      rw [← HO.out]
      exact ⟨_, 2, rfl, own_mono (own_new (w := w1) 3 #[.int .i64 (posN o), .int .i64 (posP o)] (show 2 ≤ maxLen by decide)) hz, HI.out.2.1.alloc hz _⟩

/- Contracts of slices.Min and slices.Max over ints. -/

set_option maxHeartbeats 400000 in
theorem min_any (A : Option Addr) (n cap : Nat) (xs : List Int) (w : World) (hl : xs.length = n) (hp : 0 < n) (hm : n ≤ 9223372036854775807) (h : Ints w A xs) :
    Calls Try.prog 86 #[.slice A n cap] w fun e w' => e = .returned (.int .i64 (lmin xs)) ∧ w = w' := by
  obtain ⟨ad, rfl, hb, hc⟩ := h.some_ (by omega)
  obtain ⟨x0, hx0⟩ : ∃ x, xs[0]? = some x := ⟨_, List.getElem?_eq_getElem (by omega)⟩
  have c0 : w.cell? ad = some (.int .i64 x0) := hc 0 x0 hx0
  have e0 : lmin (xs.take 1) = x0 := by rw [take_succ' hx0]; simp [lmin]
  have HE := Lib.hid e0
  have HC := Lib.hid hc
  have HL := Lib.hid hl
  have HX0 := Lib.hid hx0
  clear hc hl h hb e0 hx0
  go_enter Try.func86, Try.ntmps86
  go_wp2
  go_loop [3, 4] (fun m i => ∃ k : Nat, 1 ≤ k ∧ k ≤ n ∧ i = .int .i64 k ∧ m = .int .i64 (lmin (xs.take k))) (fun _ i => n - (intOf i).toNat)
  case atStart => exact ⟨1, by omega, by omega, rfl, by rw [HE.out]⟩
  case round =>
    obtain ⟨k, hk1, hk, rfl, rfl⟩ := hrel
    by_cases hlt : k < n
    · obtain ⟨x, hx⟩ : ∃ x, xs[k]? = some x := ⟨_, List.getElem?_eq_getElem (by rw [HL.out]; exact hlt)⟩
      have hcell := HC.out k x hx
      have HT := Lib.hid (lmin_take hx (by omega))
      have HX := Lib.hid hx
      clear hx
      go_wp2
      go_round
      case rel => exact ⟨k + 1, by omega, by omega, by go_num, val_int (by rw [HT.out]; split <;> omega)⟩
      case measure => simp [intOf]; omega
    · have HT : Hid (lmin (xs.take k) = lmin xs) := Lib.hid (by rw [List.take_of_length_le (by rw [HL.out]; omega)])
      go_wp2
      go_ret
      exact ⟨ret_int HT.out, rfl⟩

set_option maxHeartbeats 400000 in
theorem max_any (A : Option Addr) (n cap : Nat) (xs : List Int) (w : World) (hl : xs.length = n) (hp : 0 < n) (hm : n ≤ 9223372036854775807) (h : Ints w A xs) :
    Calls Try.prog 87 #[.slice A n cap] w fun e w' => e = .returned (.int .i64 (lmax xs)) ∧ w = w' := by
  obtain ⟨ad, rfl, hb, hc⟩ := h.some_ (by omega)
  obtain ⟨x0, hx0⟩ : ∃ x, xs[0]? = some x := ⟨_, List.getElem?_eq_getElem (by omega)⟩
  have c0 : w.cell? ad = some (.int .i64 x0) := hc 0 x0 hx0
  have e0 : lmax (xs.take 1) = x0 := by rw [take_succ' hx0]; simp [lmax]
  have HE := Lib.hid e0
  have HC := Lib.hid hc
  have HL := Lib.hid hl
  have HX0 := Lib.hid hx0
  clear hc hl h hb e0 hx0
  go_enter Try.func87, Try.ntmps87
  go_wp2
  go_loop [3, 4] (fun m i => ∃ k : Nat, 1 ≤ k ∧ k ≤ n ∧ i = .int .i64 k ∧ m = .int .i64 (lmax (xs.take k))) (fun _ i => n - (intOf i).toNat)
  case atStart => exact ⟨1, by omega, by omega, rfl, by rw [HE.out]⟩
  case round =>
    obtain ⟨k, hk1, hk, rfl, rfl⟩ := hrel
    by_cases hlt : k < n
    · obtain ⟨x, hx⟩ : ∃ x, xs[k]? = some x := ⟨_, List.getElem?_eq_getElem (by rw [HL.out]; exact hlt)⟩
      have hcell := HC.out k x hx
      have HT := Lib.hid (lmax_take hx (by omega))
      have HX := Lib.hid hx
      clear hx
      go_wp2
      go_round
      case rel => exact ⟨k + 1, by omega, by omega, by go_num, val_int (by rw [HT.out]; split <;> omega)⟩
      case measure => simp [intOf]; omega
    · have HT : Hid (lmax (xs.take k) = lmax xs) := Lib.hid (by rw [List.take_of_length_le (by rw [HL.out]; omega)])
      go_wp2
      go_ret
      exact ⟨ret_int HT.out, rfl⟩

/- Contract: valid of package split. -/

/-- A row that is not valid. -/
def badR (m : Nat) (r : List Int) : Bool := !(decide (r.length = m) && r.all in100)
theorem badR_len {m : Nat} {r : List Int} (h : r.length ≠ m) : badR m r = true := by unfold badR; rw [decide_eq_false h]; rfl
theorem badR_in {m : Nat} {r : List Int} (h : r.length = m) (hm : 1 ≤ m) : badR m r = (decide (lmin r < 0) || decide (100 < lmax r)) := by
  have hne : r ≠ [] := by rintro rfl; simp at h; omega
  unfold badR
  rw [decide_eq_true h, Bool.true_and, Bool.eq_iff_iff]
  simp only [Bool.not_eq_true', Bool.or_eq_true, decide_eq_true_eq]
  rw [← Bool.not_eq_true, List.all_eq_true]
  have h1 := lmin_ge hne 0
  have h2 := lmax_le hne 100
  constructor
  · intro hn
    refine Decidable.byContradiction fun hc => hn fun x hx => ?_
    have a1 := h1.1 (by omega) x hx
    have a2 := h2.1 (by omega) x hx
    simp [in100, a1, a2]
  · intro hor hall
    have b1 := h1.2 fun x hx => by have := hall x hx; simp only [in100, Bool.and_eq_true, decide_eq_true_eq] at this; exact this.1
    have b2 := h2.2 fun x hx => by have := hall x hx; simp only [in100, Bool.and_eq_true, decide_eq_true_eq] at this; exact this.2
    omega

set_option maxHeartbeats 800000 in
theorem svalid1_any (R : Option Addr) (k capr Bv m : Nat) (A : Option Addr) (n cap : Nat) (r : List Int) (V : List (List Int)) (w : World) (hl : r.length = k) (hk : k ≤ 9223372036854775807) (hR : Ints w R r) (hv : w.cell? ⟨Bv, 0, none⟩ = some (.slice A n cap))
    (hlV : V.length = n) (hn : 1 ≤ n ∧ n ≤ 4) (hm : m = (rowV V 0).length) (hm7 : 1 ≤ m ∧ m ≤ 7) (hV : Mat w A V) :
    Calls Try.prog 85 #[.slice R k capr, .pointer (some ⟨Bv, 0, none⟩)] w fun e w' => e = .returned (.bool (badR m r)) ∧ w = w' := by
  obtain ⟨ad, rfl, _, hc⟩ := hV.some_ (by omega)
  obtain ⟨A', c, h1, hrest⟩ := hc 0 _ (List.getElem?_eq_getElem (by omega))
  clear hrest
  have e : (V[0]'(by omega)).length = m := by rw [hm, rowV_get (List.getElem?_eq_getElem (by omega))]
  rw [e] at h1
  have c0 : w.cell? ad = some (.slice A' m c) := h1
  have l1 : (0 : Int) < (n : Int) := by omega
  have H := Lib.hid (And.intro hl hR)
  obtain ⟨b, hb⟩ : ∃ b, b = badR m r := ⟨_, rfl⟩
  rw [← hb]
  have HBB := Lib.hid hb
  clear hl hm hV hc h1 e hR hlV hb
  by_cases hkm : k = m
  · subst hkm
    have HE : Hid (b = (decide (lmin r < 0) || decide (100 < lmax r))) := Lib.hid (by rw [HBB.out]; exact badR_in H.out.1 hm7.1)
    go_enter Try.func85, Try.ntmps85
    go_wp2_with fail
    refine (min_any R k capr r _ H.out.1 (by omega) hk H.out.2).mono ?_
    rintro e w' ⟨rfl, rfl⟩
    generalize lmin r = lo at *
    by_cases h1 : lo < 0
    · have HF : Hid (b = true) := Lib.hid (by rw [HE.out, decide_eq_true h1]; rfl)
      go_wp2_with fail
      go_ret
      exact ⟨ret_bool HF.out.symm, rfl⟩
    · go_wp2_with fail
      refine (max_any R k capr r _ H.out.1 (by omega) hk H.out.2).mono ?_
      rintro e w' ⟨rfl, rfl⟩
      go_wp2_with fail
      go_ret
      exact ⟨ret_bool HE.out.symm, rfl⟩
  · have HF : Hid (b = true) := Lib.hid (by rw [HBB.out]; exact badR_len (by rw [H.out.1]; exact hkm))
    have hne : ((k : Int) != (m : Int)) = true := by rw [bne_iff_ne]; omega
    clear hkm
    go_enter Try.func85, Try.ntmps85
    go_wp2_with fail
    go_ret
    exact ⟨ret_bool HF.out.symm, rfl⟩

/-- What IndexFunc leaves. -/
def AnyPost (b : Bool) (w : World) (e : Ending) (w' : World) : Prop := ∃ r : Int, e = .returned (.int .i64 r) ∧ w = w' ∧ -1 ≤ r ∧ decide (0 ≤ r) = b
set_option maxHeartbeats 800000 in
theorem indexV_any (A : Option Addr) (n cap Bv m : Nat) (V : List (List Int)) (w : World) (hv : w.cell? ⟨Bv, 0, none⟩ = some (.slice A n cap))
    (hlV : V.length = n) (hn : 1 ≤ n ∧ n ≤ 4) (hm : m = (rowV V 0).length) (hm7 : 1 ≤ m ∧ m ≤ 7) (hV : Mat w A V) :
    Calls Try.prog 106 #[.slice A n cap, .func (.func 85) #[] #[.pointer (some ⟨Bv, 0, none⟩)]] w (AnyPost (V.any (badR m)) w) := by
  obtain ⟨ad, rfl, _, hc⟩ := hV.some_ (by omega)
  have H := Lib.hid (And.intro hlV (And.intro hm (And.intro hV (And.intro hc hv))))
  clear hlV hm hV hc
  go_enter Try.func106, Try.ntmps106
  go_wp2_with fail
  go_loop [8] (fun i => ∃ k : Nat, k ≤ n ∧ i = .int .i64 k ∧ (V.take k).any (badR m) = false) (fun i => n - (intOf i).toNat)
  case atStart => exact ⟨0, Nat.zero_le _, rfl, by simp⟩
  case round =>
    obtain ⟨k, hk, rfl, ha⟩ := hrel
    have HA := Lib.hid ha
    clear ha
    by_cases hlt : k < n
    · obtain ⟨hlV, hm, hV, hc, hv'⟩ := H.out
      obtain ⟨r, hr⟩ : ∃ r, V[k]? = some r := ⟨_, List.getElem?_eq_getElem (by omega)⟩
      obtain ⟨R, cr, g1, g2, g3, g4⟩ := hc k r hr
      have HX := Lib.hid (And.intro hr g4)
      have l1 : (k : Int) < (n : Int) := by omega
      clear hlV hm hV hc hr g4 hv'
      go_wp2_with fail
      refine (svalid1_any R r.length cr Bv m (some ad) n cap r V _ rfl (by omega) HX.out.2 hv H.out.1 hn H.out.2.1 hm7 H.out.2.2.1).mono ?_
      rintro e w' ⟨rfl, rfl⟩
      cases hb : badR m r
      · have HN : Hid ((V.take (k + 1)).any (badR m) = false) := Lib.hid (by rw [List.take_add_one, HX.out.1, List.any_append, HA.out]; simp [hb])
        clear hb
        go_wp2_with fail
        go_round
        case rel => exact ⟨k + 1, by omega, by go_num, HN.out⟩
        case measure => simp [intOf]; omega
      · have HN : Hid (V.any (badR m) = true) := Lib.hid (List.any_eq_true.2 ⟨r, List.mem_of_getElem? HX.out.1, hb⟩)
        clear hb
        go_wp2_with fail
        go_ret
        exact ⟨(k : Int), rfl, rfl, by omega, by rw [HN.out, decide_eq_true (by omega)]⟩
    · have HN : Hid (V.any (badR m) = false) := Lib.hid (by have h := HA.out; rwa [List.take_of_length_le (by rw [H.out.1]; omega)] at h)
      go_wp2_with fail
      go_ret
      exact ⟨-1, rfl, rfl, by omega, by rw [HN.out]; rfl⟩

theorem containsV_any (A : Option Addr) (n cap Bv m : Nat) (V : List (List Int)) (w : World) (hv : w.cell? ⟨Bv, 0, none⟩ = some (.slice A n cap))
    (hlV : V.length = n) (hn : 1 ≤ n ∧ n ≤ 4) (hm : m = (rowV V 0).length) (hm7 : 1 ≤ m ∧ m ≤ 7) (hV : Mat w A V) :
    Calls Try.prog 84 #[.slice A n cap, .func (.func 85) #[] #[.pointer (some ⟨Bv, 0, none⟩)]] w fun e w' => e = .returned (.bool (V.any (badR m))) ∧ w = w' := by
  go_enter Try.func84, Try.ntmps84
  go_wp2_with fail
  refine (indexV_any A n cap Bv m V _ hv hlV hn hm hm7 hV).mono ?_
  rintro e w' ⟨r, rfl, rfl, hr, hd⟩
  have HD := Lib.hid hd
  clear hd hv hlV hm hV
  go_wp2_with fail
  go_ret
  exact ⟨ret_bool HD.out, rfl⟩

theorem valV_eq {V : List (List Int)} {m : Nat} (hn : 1 ≤ V.length ∧ V.length ≤ 4) (hm : m = (rowV V 0).length) (hm7 : 1 ≤ m ∧ m ≤ 7) : valV V = !V.any (badR m) := by
  unfold valV
  rw [← hm, decide_eq_true hn.1, decide_eq_true hn.2, decide_eq_true hm7.1, decide_eq_true hm7.2]
  simp only [Bool.true_and]
  unfold badR
  rw [List.any_eq_not_all_not]
  simp

set_option maxRecDepth 100000 in
set_option maxHeartbeats 1600000 in
theorem svalid_any (A : Option Addr) (n cap : Nat) (V : List (List Int)) (w : World) (hl : V.length = n) (hn : n ≤ 9223372036854775807) (hV : Mat w A V) :
    Calls Try.prog 48 #[.slice A n cap] w fun e w' => e = .returned (.bool (valV V)) ∧ Below w.heap.size w w' := by
  obtain ⟨b, hb⟩ : ∃ b, b = valV V := ⟨_, rfl⟩
  rw [← hb]
  have HBB := Lib.hid (And.intro hb hl)
  by_cases h1 : n < 1
  · have HF : Hid (b = false) := Lib.hid (by rw [hb]; unfold valV; rw [decide_eq_false (by omega)]; rfl)
    clear hb hl hV
    go_enter Try.func48, Try.ntmps48
    go_wp2_with fail
    go_ret
    exact ⟨ret_bool HF.out.symm, (Below.refl _ _).alloc (Nat.le_refl _) _⟩
  · by_cases h2 : 4 < n
    · have HF : Hid (b = false) := Lib.hid (by rw [hb]; unfold valV; rw [decide_eq_false (p := V.length ≤ 4) (by omega)]; simp)
      clear hb hl hV
      go_enter Try.func48, Try.ntmps48
      go_wp2_with fail
      go_ret
      exact ⟨ret_bool HF.out.symm, (Below.refl _ _).alloc (Nat.le_refl _) _⟩
    · obtain ⟨m, hm⟩ : ∃ m, m = (rowV V 0).length := ⟨_, rfl⟩
      obtain ⟨ad, rfl, had, hc⟩ := hV.some_ (by omega)
      obtain ⟨A', c, g1, g2, g3, g4⟩ := hc 0 _ (List.getElem?_eq_getElem (by omega))
      have e : (V[0]'(by omega)).length = m := by rw [hm, rowV_get (List.getElem?_eq_getElem (by omega))]
      rw [e] at g1 g2
      have c0 : ∀ o, (w.alloc o).cell? ad = some (.slice A' m c) := fun o => (World.cell?_alloc_lt _ _ _ (lt_of_cell g1)).trans g1
      have H := Lib.hid (And.intro hb (And.intro hl (And.intro hm hV)))
      have l1 : (0 : Int) < (n : Int) := by omega
      clear hb hl hm hV hc g1 g4 e
      by_cases h3 : m < 1
      · have HF : Hid (b = false) := Lib.hid (by rw [H.out.1]; unfold valV; rw [← H.out.2.2.1, decide_eq_false (p := 1 ≤ m) (by omega)]; simp)
        go_enter Try.func48, Try.ntmps48
        go_wp2_with fail
        go_ret
        exact ⟨ret_bool HF.out.symm, (Below.refl _ _).alloc (Nat.le_refl _) _⟩
      · by_cases h4 : 7 < m
        · have HF : Hid (b = false) := Lib.hid (by rw [H.out.1]; unfold valV; rw [← H.out.2.2.1, decide_eq_false (p := m ≤ 7) (by omega)]; simp)
          go_enter Try.func48, Try.ntmps48
          go_wp2_with fail
          go_ret
          exact ⟨ret_bool HF.out.symm, (Below.refl _ _).alloc (Nat.le_refl _) _⟩
        · have HF : Hid (b = !V.any (badR m)) := Lib.hid (by rw [H.out.1]; exact valV_eq (by rw [H.out.2.1]; omega) H.out.2.2.1 (by omega))
          have hp : ∀ o, (w.alloc (.cells #[o] 61)).cell? ⟨w.heap.size, 0, none⟩ = some o := fun o => (Blk.new w 61 #[o] rfl).at1.1
          have HP := Lib.hid hp
          clear hp
          go_enter Try.func48, Try.ntmps48
          go_wp2_with fail
          refine (containsV_any (some ad) n cap w.heap.size m V _ (HP.out _) H.out.2.1 (by omega) H.out.2.2.1 (by omega) (H.out.2.2.2.below ((Below.refl _ _).alloc (Nat.le_refl _) _))).mono ?_
          rintro e w' ⟨rfl, rfl⟩
          go_wp2_with fail
          go_ret
          exact ⟨ret_bool HF.out.symm, (Below.refl _ _).alloc (Nat.le_refl _) _⟩

/- Equality of lists, as a walk decides it. No program. -/

def eqB {α : Type} [DecidableEq α] (a b : List α) : Bool := decide (a = b)
theorem eqB_len {α : Type} [DecidableEq α] {a b : List α} (h : a.length ≠ b.length) : eqB a b = false := by
  unfold eqB; exact decide_eq_false fun e => h (by rw [e])
theorem eqB_at {α : Type} [DecidableEq α] {a b : List α} {k : Nat} {x y : α} (hx : a[k]? = some x) (hy : b[k]? = some y) (h : x ≠ y) : eqB a b = false := by
  unfold eqB; exact decide_eq_false fun e => h (by rw [e, hy] at hx; injection hx with hx; exact hx.symm)
theorem eqB_all {α : Type} [DecidableEq α] {a b : List α} {n : Nat} (ha : a.length = n) (hb : b.length = n) (h : a.take n = b.take n) : eqB a b = true := by
  unfold eqB; apply decide_eq_true
  rwa [List.take_of_length_le (by omega), List.take_of_length_le (by omega)] at h
theorem take_eq_succ {α : Type} {a b : List α} {k : Nat} {x : α} (hx : a[k]? = some x) (hy : b[k]? = some x) (h : a.take k = b.take k) : a.take (k + 1) = b.take (k + 1) := by
  rw [List.take_add_one, List.take_add_one, hx, hy, h]

/- Contract: slices.Equal of ints. -/

set_option maxHeartbeats 800000 in
theorem equal_any (A A' : Option Addr) (n n' cap cap' : Nat) (ps qs : List Int) (w : World) (hl : ps.length = n) (hl' : qs.length = n') (hm : n ≤ 9223372036854775807) (h : Ints w A ps) (h' : Ints w A' qs) :
    Calls Try.prog 24 #[.slice A n cap, .slice A' n' cap'] w fun e w' => e = .returned (.bool (eqB ps qs)) ∧ ∃ m, w' = w.drewN m := by
  by_cases hnn : n = n'
  · subst hnn
    by_cases h0 : n = 0
    · subst h0
      obtain rfl := List.eq_nil_of_length_eq_zero hl
      obtain rfl := List.eq_nil_of_length_eq_zero hl'
      go_enter Try.func24, Try.ntmps24
      go_wp2
      refine wp_loop_rounds 1 ?_
      rw [rounds_succ]
      go_wp2
      go_ret
      exact ⟨rfl, 0, rfl⟩
    · obtain ⟨ad, rfl, _, hc⟩ := h.some_ (by omega)
      obtain ⟨ad', rfl, _, hc'⟩ := h'.some_ (by omega)
      have H := Lib.hid (And.intro hl (And.intro hl' (And.intro hc hc')))
      clear hl hl' hc hc' h h'
      go_enter Try.func24, Try.ntmps24
      go_wp2
      go_loopw [13] (fun iv wr => ∃ k : Nat, k ≤ n ∧ iv = .int .i64 k ∧ ps.take k = qs.take k ∧ ∃ m, wr = w.drewN m) (fun iv _ => n - (intOf iv).toNat)
      case atStart => exact ⟨0, Nat.zero_le _, rfl, rfl, 0, rfl⟩
      case round =>
        obtain ⟨k, hk, rfl, ht, m, rfl⟩ := hrel
        have HT := Lib.hid ht
        clear ht
        obtain ⟨hl, hl', hc, hc'⟩ := H.out
        by_cases hlt : k < n
        · obtain ⟨p, hp⟩ : ∃ p, ps[k]? = some p := ⟨_, List.getElem?_eq_getElem (by omega)⟩
          obtain ⟨q, hq⟩ : ∃ q, qs[k]? = some q := ⟨_, List.getElem?_eq_getElem (by omega)⟩
          have c1 := hc k p hp
          have c2 := hc' k q hq
          have HP := Lib.hid (And.intro hp hq)
          clear hp hq hc hc' hl hl'
          by_cases he : p = q
          · subst he
            go_wp2_with fail
            go_quiet (fail)
            go_wp2_with fail
            go_roundw
            case rel => exact ⟨k + 1, by omega, by go_num, take_eq_succ HP.out.1 HP.out.2 HT.out, by first | exact ⟨_, rfl⟩ | exact ⟨_, World.drewN_drewN _ _ _⟩⟩
            case measure => simp [intOf]; omega
          · have hne : (p != q) = true := by simpa using he
            have HNE := Lib.hid he
            clear he
            go_wp2_with fail
            go_quiet (fail)
            go_wp2_with fail
            go_ret
            exact ⟨ret_bool (eqB_at HP.out.1 HP.out.2 HNE.out).symm, by first | exact ⟨_, rfl⟩ | exact ⟨_, World.drewN_drewN _ _ _⟩⟩
        · obtain rfl : k = n := by omega
          have HF : Hid (eqB ps qs = true) := Lib.hid (eqB_all hl hl' HT.out)
          clear hl hl' hc hc'
          go_wp2
          go_ret
          exact ⟨ret_bool HF.out.symm, m, rfl⟩
  · have HF : Hid (eqB ps qs = false) := Lib.hid (eqB_len (by omega))
    have hne : ((n : Int) != (n' : Int)) = true := by rw [bne_iff_ne]; omega
    clear hl hl' h h'
    go_enter Try.func24, Try.ntmps24
    go_wp2
    go_ret
    exact ⟨ret_bool HF.out.symm, 0, rfl⟩

/- Contract: Nash of package split. -/

/-- Which division Nash takes. -/
def nashB (V : List (List Int)) : Nat := bst (fun t => nashS V (dz V.length (rowV V 0).length t) V.length) (V.length ^ (rowV V 0).length)

theorem ent_nash1 : Ent 77 := ent_of Try.func77 (by kernel_rfl) (by kernel_rfl)

theorem valV_rows {V : List (List Int)} {m : Nat} (h : valV V = true) (hm : m = (rowV V 0).length) : ∀ i, i < V.length → (rowV V i).length = m ∧ ∀ x ∈ rowV V i, 0 ≤ x ∧ x ≤ 100 := by
  intro i hi
  obtain ⟨_, _, h3⟩ := valV_iff.1 h
  have e : rowV V i = V[i]'hi := rowV_get (List.getElem?_eq_getElem hi)
  rw [e, hm]
  exact h3 _ (List.getElem_mem hi)

/-- What Nash leaves. -/
def NashPost (V : List (List Int)) (w : World) (e : Ending) (w' : World) : Prop :=
  (valV V = false ∧ e = .returned (.tuple #[.slice none 0 0, .int .i64 0, .int .i64 2]) ∧ Below w.heap.size w w') ∨
  (valV V = true ∧ ∃ A c, e = .returned (.tuple #[.slice (some A) (rowV V 0).length c, .int .i64 (posP (ownV V (dz V.length (rowV V 0).length (nashB V)) V.length)), .int .i64 0]) ∧
    (rowV V 0).length ≤ c ∧ c ≤ 9223372036854775807 ∧ Ints w' (some A) (dz V.length (rowV V 0).length (nashB V)) ∧ Below w.heap.size w w')

set_option maxRecDepth 100000 in
set_option maxHeartbeats 1600000 in
theorem nash_any (A : Option Addr) (n cap : Nat) (V : List (List Int)) (w : World) (hl : V.length = n) (hn : n ≤ 9223372036854775807) (hV : Mat w A V) :
    Calls Try.prog 43 #[.slice A n cap] w (NashPost V w) := by
  have hp : ∀ o, Blk (w.alloc (.cells #[o] 61)) w.heap.size 61 #[o] := fun o => Blk.new w 61 #[o] rfl
  have hz1 : ∀ o, (w.alloc o).heap.size = w.heap.size + 1 := fun o => by simp
  have H := Lib.hid (And.intro hl (And.intro hV (And.intro hp hz1)))
  clear hV hp hz1
  go_enter Try.func43, Try.ntmps43
  go_wp2_with fail
  refine (svalid_any A n cap V _ H.out.1 hn (H.out.2.1.below ((Below.refl _ _).alloc (Nat.le_refl _) _))).mono ?_
  rintro e w1 ⟨rfl, hb1⟩
  obtain ⟨b, hb⟩ : ∃ b, b = valV V := ⟨_, rfl⟩
  rw [← hb]
  have hBlk : Blk w1 w.heap.size 61 #[.slice A n cap] := (H.out.2.2.1 _).below hb1 (by go_size)
  have hbl1 : Below w.heap.size w w1 := ((Below.refl w.heap.size w).alloc (Nat.le_refl _) _).trans (hb1.mono (by go_size))
  have hw1 := hb1.size
  have c1 := hBlk.at1.1
  have HB := Lib.hid (And.intro hb (And.intro hBlk hbl1))
  clear hb hb1 hBlk hbl1
  cases b
  · go_wp2_with fail
    go_ret3
    exact .inl ⟨HB.out.1.symm, rfl, HB.out.2.2⟩
  · have hv1 := valV_iff.1 HB.out.1.symm
    have hn4 : 1 ≤ n ∧ n ≤ 4 := by rw [← hl]; exact hv1.1
    obtain ⟨m, hm⟩ : ∃ m, m = (rowV V 0).length := ⟨_, rfl⟩
    have hm7 : 1 ≤ m ∧ m ≤ 7 := by rw [hm]; exact hv1.2.1
    have HR := Lib.hid (And.intro hm (valV_rows HB.out.1.symm hm))
    clear hv1 hm
    go_wp2_with fail
    refine (best_any A n cap m V 77 #[.pointer (some ⟨w.heap.size, 0, none⟩)] (fun t => nashS V (dz n m t) n) w1 ent_nash1 (fun t => by simp [nashS]) H.out.1 hn4 HR.out.1 hm7 (H.out.2.1.below HB.out.2.2) ?hs).mono ?_
    case hs =>
      intro t w' ht hb' hB
      have hw := hb'.size
      refine nash1_any A n cap (some ⟨w1.heap.size + 3, 0, none⟩) m m w.heap.size V (dz n m t) w' ?_ H.out.1 hn4.2 (dz_length _ _ _) hm7.2 (by rw [← H.out.1]; exact HR.out.2) ((H.out.2.1.below HB.out.2.2).below hb') (blk_ints hB)
      exact (HB.out.2.1.below hb' HB.out.2.1.lt).at1.1
    rintro e w2 ⟨A2, c2, Am, cm, rfl, g1, g2, g3, g4, g5, g6, g7⟩
    obtain ⟨ad, rfl, hc⟩ := g6 1 (.int .i64 (posP (ownV V (dz n m (bst (fun t => nashS V (dz n m t) n) (n ^ m))) n))) rfl
    have HF := Lib.hid (And.intro g3 g7)
    have hlen : (nashS V (dz n m (bst (fun t => nashS V (dz n m t) n) (n ^ m))) n).length = 2 := rfl
    rw [hlen] at g4 ⊢
    clear g3 g6 g7 hlen
    have hbb : nashB V = bst (fun t => nashS V (dz n m t) n) (n ^ m) := by unfold nashB; rw [H.out.1, ← HR.out.1]
    have HBB := Lib.hid hbb
    clear hbb
    generalize bst (fun t => nashS V (dz n m t) n) (n ^ m) = bb at *
    obtain ⟨pp, hpp⟩ : ∃ pp, pp = posP (ownV V (dz n m bb) n) := ⟨_, rfl⟩
    rw [← hpp] at hc
    have HPP := Lib.hid hpp
    clear hpp
    have hc3 : w2.cell? ⟨ad.block, ad.off + 1, none⟩ = some (.int .i64 pp) := hc
    go_wp2_with fail
    go_quiet (fail)
    go_wp2_with fail
    go_ret3
    refine .inr ⟨HB.out.1.symm, A2, c2, ?_, by rw [← HR.out.1]; exact g1, g2, ?_, HB.out.2.2.trans (below_drewN (HF.out.2.mono HB.out.2.2.size) _)⟩
    · rw [H.out.1, ← HR.out.1, HBB.out, ← HPP.out]; rfl
    · rw [H.out.1, ← HR.out.1, HBB.out]; exact HF.out.1

theorem nash_31 : nashB [[3, 1], [1, 3]] = 1 ∧ valV [[3, 1], [1, 3]] = true ∧ posP (ownV [[3, 1], [1, 3]] (dz 2 2 1) 2) = 9 ∧ dz 2 2 1 = [0, 1] := by decide +kernel

theorem mat_31 (w : World) : Mat (((w.alloc (.cells #[.int .i64 3, .int .i64 1] 3)).alloc (.cells #[.int .i64 1, .int .i64 3] 3)).alloc (.cells #[.slice (some ⟨w.heap.size, 0, none⟩) 2 2, .slice (some ⟨w.heap.size + 1, 0, none⟩) 2 2] 23)) (some ⟨w.heap.size + 1 + 1, 0, none⟩) [[3, 1], [1, 3]] := by
  have b1 : Blk (((w.alloc (.cells #[.int .i64 3, .int .i64 1] 3)).alloc (.cells #[.int .i64 1, .int .i64 3] 3)).alloc (.cells #[.slice (some ⟨w.heap.size, 0, none⟩) 2 2, .slice (some ⟨w.heap.size + 1, 0, none⟩) 2 2] 23)) w.heap.size 3 (arr [3, 1]) := ((Blk.new w 3 _ rfl).alloc _).alloc _
  have b2 : Blk (((w.alloc (.cells #[.int .i64 3, .int .i64 1] 3)).alloc (.cells #[.int .i64 1, .int .i64 3] 3)).alloc (.cells #[.slice (some ⟨w.heap.size, 0, none⟩) 2 2, .slice (some ⟨w.heap.size + 1, 0, none⟩) 2 2] 23)) (w.heap.size + 1) 3 (arr [1, 3]) := (Blk.new _ 3 _ (by simp)).alloc _
  have b3 : Blk (((w.alloc (.cells #[.int .i64 3, .int .i64 1] 3)).alloc (.cells #[.int .i64 1, .int .i64 3] 3)).alloc (.cells #[.slice (some ⟨w.heap.size, 0, none⟩) 2 2, .slice (some ⟨w.heap.size + 1, 0, none⟩) 2 2] 23)) (w.heap.size + 1 + 1) 23 #[.slice (some ⟨w.heap.size, 0, none⟩) 2 2, .slice (some ⟨w.heap.size + 1, 0, none⟩) 2 2] := Blk.new _ 23 _ (by simp)
  intro j r hj
  match j with
  | 0 => injection hj with hj; subst hj; exact ⟨_, _, 2, rfl, b3.at2.1, by simp, by omega, blk_ints b1⟩
  | 1 => injection hj with hj; subst hj; exact ⟨_, _, 2, rfl, b3.at2.2.1, by simp, by omega, blk_ints b2⟩
  | j + 2 => simp at hj

set_option maxHeartbeats 1600000 in
theorem awake_any (w : World) : Calls Try.prog 22 #[] w fun e w' => e = .returned (.bool true) ∧ Below w.heap.size w w' := by
  have HM := Lib.hid (mat_31 w)
  obtain ⟨n1, n2, n3, n4⟩ := nash_31
  go_enter Try.func22, Try.ntmps22
  go_wp2_with fail
  refine (nash_any _ 2 2 [[3, 1], [1, 3]] _ rfl (by omega) HM.out).mono ?_
  rintro e w1 (⟨h, _⟩ | ⟨_, A1, c1, rfl, hc1, hc2, hI, hb⟩)
  · rw [n2] at h; cases h
  have e1 : (rowV [[3, 1], [1, 3]] 0).length = 2 := rfl
  have e2 : ([[3, 1], [1, 3]] : List (List Int)).length = 2 := rfl
  rw [n1, e1, e2, n4] at hI
  rw [n1, e1, e2, n3]
  have H1 := Lib.hid (And.intro hI hb)
  clear hI hb n1 n2 n3 n4 e1 e2
  go_wp2_with fail
  have hG : Ints (w1.alloc (.cells #[.int .i64 0, .int .i64 1] 3)) (some ⟨w1.heap.size, 0, none⟩) [0, 1] := blk_ints (Blk.new w1 3 (arr [0, 1]) rfl)
  refine (equal_any (some A1) (some ⟨w1.heap.size, 0, none⟩) 2 2 c1 2 [0, 1] [0, 1] _ rfl rfl (by omega) (H1.out.1.below ((Below.refl _ _).alloc (by go_size) _)) hG).mono ?_
  rintro e w2 ⟨rfl, kd, rfl⟩
  have e1 : eqB ([0, 1] : List Int) [0, 1] = true := by decide
  rw [e1]
  have H2 := Lib.hid ((((((Below.refl w.heap.size w).alloc (Nat.le_refl _) _).alloc (by go_size) _).alloc (by go_size) _).trans (H1.out.2.mono (by go_size))).alloc (by have := H1.out.2.size; simp at this; omega) (.cells #[.int .i64 0, .int .i64 1] 3))
  clear hG
  go_wp2
  go_ret
  exact ⟨rfl, below_drewN H2.out _⟩

/- Contracts: slices.Collect and Sorted over slices.Values; Least of package split. -/

theorem appendseq_any (Bs b cap n : Nat) (zs : List Int) (hzl : zs.length = n) (hlen : 1 ≤ n ∧ n ≤ 1000) (w : World) (hBs : Bs < w.heap.size)
    (hcs : w.cell? ⟨Bs, 0, none⟩ = some (.slice (some ⟨b, 0, none⟩) n cap)) (hb : b < w.heap.size) (hI : Ints w (some ⟨b, 0, none⟩) zs) :
    Calls Try.prog 110 #[.slice none 0 0, .func (.func 105) #[] #[.pointer (some ⟨Bs, 0, none⟩)]] w fun e W' => ∃ g c, e = .returned (.slice (some ⟨g, 0, none⟩) n c) ∧ W'.ownsRow w.heap.size 3 1 (.slice (some ⟨g, 0, none⟩) n c) n (zs.map (Value.int .i64)) ∧ Below w.heap.size w W' := by
  subst hzl
  refine (callsIn_wide (n := 3)).1 ((appendseq_in Fence.wide 3 trivial trivial rfl (Nat.le_refl _) Bs b cap zs hlen.2 w hBs hcs hb (fun j hj => ?_)).mono ?_)
  · obtain ⟨ad, had, hc⟩ := hI j (.int .i64 (zs[j]?.getD 0)) (by rw [List.getElem?_map, List.getElem?_eq_getElem hj]; rfl)
    injection had with had
    subst had
    have e : (⟨b, 0, none⟩ : Addr).add j = ⟨b, j, none⟩ := by cases j <;> simp [Addr.add]
    rwa [e] at hc
  · rintro e W' ⟨v, rfl, hown, _, hbl⟩
    obtain ⟨A', k', rfl, _, _, _⟩ := own_form hown
    obtain ⟨g, rfl, _, _⟩ := own_some hown hlen.1
    exact ⟨g, k', rfl, hown, hbl⟩

set_option maxHeartbeats 800000 in
theorem collect_any (Bs b cap n : Nat) (zs : List Int) (hzl : zs.length = n) (hlen : 1 ≤ n ∧ n ≤ 1000) (w : World) (hBs : Bs < w.heap.size)
    (hcs : w.cell? ⟨Bs, 0, none⟩ = some (.slice (some ⟨b, 0, none⟩) n cap)) (hb : b < w.heap.size) (hI : Ints w (some ⟨b, 0, none⟩) zs) :
    Calls Try.prog 103 #[.func (.func 105) #[] #[.pointer (some ⟨Bs, 0, none⟩)]] w fun e W' => ∃ g c, e = .returned (.slice (some ⟨g, 0, none⟩) n c) ∧ W'.ownsRow w.heap.size 3 1 (.slice (some ⟨g, 0, none⟩) n c) n (zs.map (Value.int .i64)) ∧ Below w.heap.size w W' := by
  have HC := Lib.hid (appendseq_any Bs b cap n zs hzl hlen w hBs hcs hb hI)
  clear hzl hcs hI
  go_enter Try.func103, Try.ntmps103
  go_wp2_with fail
  refine HC.out.mono ?_
  rintro e W ⟨g, c, rfl, hown, hbl⟩
  have HO := Lib.hid (And.intro hown hbl)
  clear hown hbl
  go_wp2_with fail
  go_ret
  exact ⟨g, c, rfl, HO.out⟩

set_option maxHeartbeats 800000 in
theorem sorted_any (Bs b cap n : Nat) (zs : List Int) (hzl : zs.length = n) (hlen : 1 ≤ n ∧ n ≤ 4) (w : World) (hBs : Bs < w.heap.size)
    (hcs : w.cell? ⟨Bs, 0, none⟩ = some (.slice (some ⟨b, 0, none⟩) n cap)) (hb : b < w.heap.size) (hI : Ints w (some ⟨b, 0, none⟩) zs) :
    Calls Try.prog 79 #[.func (.func 105) #[] #[.pointer (some ⟨Bs, 0, none⟩)]] w fun e W' => ∃ g c, e = .returned (.slice (some ⟨g, 0, none⟩) n c) ∧ W'.ownsRow w.heap.size 3 1 (.slice (some ⟨g, 0, none⟩) n c) n ((sortTo zs n).map (Value.int .i64)) ∧ Below w.heap.size w W' := by
  have HC := Lib.hid (collect_any Bs b cap n zs hzl ⟨hlen.1, by omega⟩ w hBs hcs hb hI)
  have HZ := Lib.hid hzl
  clear hzl hcs hI
  go_enter Try.func79, Try.ntmps79
  go_wp2_with fail
  refine HC.out.mono ?_
  rintro e W ⟨g, c, rfl, hown, hbl⟩
  have hpre : PreB W g n c zs ∧ w.heap.size ≤ g ∧ n ≤ c ∧ c ≤ maxLen := by
    rcases hown.2 with ⟨h0, _⟩ | ⟨g', cap', cur, hv, h1, h2, h3, h4, h5, h6⟩
    · cases h0
    · injection hv with e1 _ e3
      injection e1 with e1
      injection e1 with e1
      subst e1; subst e3
      exact ⟨⟨cur, h2, by rw [h5, Nat.mul_one], by rw [← h6, Nat.mul_one]⟩, h1, h3, h4⟩
  have HO := Lib.hid (And.intro hpre hbl)
  clear hown hbl hpre
  go_wp2_with fail
  refine (ssort_any g c n zs W HZ.out hlen HO.out.1.1).mono ?_
  rintro e w2 ⟨rfl, hp2, hk2⟩
  have H2 := Lib.hid (And.intro hp2 hk2)
  clear hp2 hk2
  go_wp2_with fail
  go_ret
  refine ⟨g, c, rfl, ?_, ?_⟩
  · obtain ⟨cur, hB, hs, ht⟩ := H2.out.1
    exact ⟨by rw [List.length_map, sortTo_length, HZ.out, Nat.mul_one], .inr ⟨g, c, cur, rfl, HO.out.1.2.1, hB, HO.out.1.2.2.1, HO.out.1.2.2.2, by rw [hs, Nat.mul_one], by rw [Nat.mul_one]; exact ht⟩⟩
  · have hsz := HO.out.2.size
    exact HO.out.2.trans (H2.out.2.mono (S' := []) hsz (fun x hx => by rw [List.mem_singleton.1 hx]; exact .inr HO.out.1.2.1)).below

set_option maxRecDepth 100000 in
set_option maxHeartbeats 1600000 in
theorem least1_any (A : Option Addr) (n cap : Nat) (D : Option Addr) (m capd Bv : Nat) (V : List (List Int)) (d : List Int) (w : World) (hv : w.cell? ⟨Bv, 0, none⟩ = some (.slice A n cap)) (hl : V.length = n) (hn : 1 ≤ n ∧ n ≤ 4) (hld : d.length = m) (hm : m ≤ 7)
    (hr : ∀ i, i < n → (rowV V i).length = m ∧ ∀ x ∈ rowV V i, 0 ≤ x ∧ x ≤ 100) (hV : Mat w A V) (hD : Ints w D d) :
    Calls Try.prog 78 #[.slice D m capd, .pointer (some ⟨Bv, 0, none⟩)] w (ScorePost (sortTo (ownV V d n) n) w) := by
  have H := Lib.hid (And.intro hl (And.intro hld (And.intro hr (And.intro hV hD))))
  clear hl hld hr hV hD
  go_enter Try.func78, Try.ntmps78
  go_wp2_with fail
  refine (own_any A n cap D m capd V d _ H.out.1 (by omega) H.out.2.1 (by omega) H.out.2.2.1 H.out.2.2.2.1 H.out.2.2.2.2).mono ?_
  rintro e w1 ⟨A1, c1, rfl, hown, hb⟩
  have hI : Ints w1 A1 (ownV V d n) := At.of_own hown
  obtain ⟨g1, rfl, hg1, hg1l⟩ := own_some hown hn.1
  have H1 := Lib.hid (And.intro hI (And.intro hb (ownV_length V d n)))
  have hw1 := hb.size
  clear hown hI hb
  go_wp2_with fail
  refine (values_any (some ⟨g1, 0, none⟩) n c1 w1).mono ?_
  rintro e w2 ⟨rfl, rfl⟩
  have hb2 : Below w1.heap.size w1 (w1.alloc (.cells #[.slice (some ⟨g1, 0, none⟩) n c1] 23)) := (Below.refl _ _).alloc (Nat.le_refl _) _
  have hBx : Blk (w1.alloc (.cells #[.slice (some ⟨g1, 0, none⟩) n c1] 23)) w1.heap.size 23 #[.slice (some ⟨g1, 0, none⟩) n c1] := Blk.new w1 _ _ rfl
  have HC := Lib.hid (sorted_any w1.heap.size g1 c1 n (ownV V d n) H1.out.2.2 hn (w1.alloc (.cells #[.slice (some ⟨g1, 0, none⟩) n c1] 23)) (by simp) (hBx.cell 0) (by simp; omega) (H1.out.1.below hb2))
  have H2 := Lib.hid (H1.out.2.1.trans (hb2.mono hw1))
  clear hb2 hBx
  go_wp2_with fail
  refine HC.out.mono ?_
  rintro e w3 ⟨g3, c3, rfl, hown3, hb3⟩
  have H3 := Lib.hid (And.intro hown3 (H2.out.trans (hb3.mono (by simp; omega))))
  clear hown3 hb3
  go_wp2_with fail
  go_ret
  have hlen : (sortTo (ownV V d n) n).length = n := by rw [sortTo_length, H1.out.2.2]
  refine ⟨some ⟨g3, 0, none⟩, c3, by rw [hlen]; rfl, ?_, H3.out.2⟩
  rw [hlen]
  exact own_mono H3.out.1 (by simp; omega)

/-- Which division Least takes. -/
def leastB (V : List (List Int)) : Nat := bst (fun t => sortTo (ownV V (dz V.length (rowV V 0).length t) V.length) V.length) (V.length ^ (rowV V 0).length)

theorem ent_least1 : Ent 78 := ent_of Try.func78 (by kernel_rfl) (by kernel_rfl)

/-- What Least leaves. -/
def LeastPost (V : List (List Int)) (w : World) (e : Ending) (w' : World) : Prop :=
  (valV V = false ∧ e = .returned (.tuple #[.slice none 0 0, .int .i64 2]) ∧ Below w.heap.size w w') ∨
  (valV V = true ∧ ∃ A c, e = .returned (.tuple #[.slice (some A) (rowV V 0).length c, .int .i64 0]) ∧
    (rowV V 0).length ≤ c ∧ c ≤ 9223372036854775807 ∧ Ints w' (some A) (dz V.length (rowV V 0).length (leastB V)) ∧ Below w.heap.size w w')

set_option maxRecDepth 100000 in
set_option maxHeartbeats 1600000 in
theorem sleast_any (A : Option Addr) (n cap : Nat) (V : List (List Int)) (w : World) (hl : V.length = n) (hn : n ≤ 9223372036854775807) (hV : Mat w A V) :
    Calls Try.prog 44 #[.slice A n cap] w (LeastPost V w) := by
  have hp : ∀ o, Blk (w.alloc (.cells #[o] 61)) w.heap.size 61 #[o] := fun o => Blk.new w 61 #[o] rfl
  have hz1 : ∀ o, (w.alloc o).heap.size = w.heap.size + 1 := fun o => by simp
  have H := Lib.hid (And.intro hl (And.intro hV (And.intro hp hz1)))
  clear hV hp hz1
  go_enter Try.func44, Try.ntmps44
  go_wp2_with fail
  refine (svalid_any A n cap V _ H.out.1 hn (H.out.2.1.below ((Below.refl _ _).alloc (Nat.le_refl _) _))).mono ?_
  rintro e w1 ⟨rfl, hb1⟩
  obtain ⟨b, hb⟩ : ∃ b, b = valV V := ⟨_, rfl⟩
  rw [← hb]
  have hBlk : Blk w1 w.heap.size 61 #[.slice A n cap] := (H.out.2.2.1 _).below hb1 (by go_size)
  have hbl1 : Below w.heap.size w w1 := ((Below.refl w.heap.size w).alloc (Nat.le_refl _) _).trans (hb1.mono (by go_size))
  have hw1 := hb1.size
  have c1 := hBlk.at1.1
  have HB := Lib.hid (And.intro hb (And.intro hBlk hbl1))
  clear hb hb1 hBlk hbl1
  cases b
  · go_wp2_with fail
    go_ret2
    exact .inl ⟨HB.out.1.symm, rfl, HB.out.2.2⟩
  · have hv1 := valV_iff.1 HB.out.1.symm
    have hn4 : 1 ≤ n ∧ n ≤ 4 := by rw [← hl]; exact hv1.1
    obtain ⟨m, hm⟩ : ∃ m, m = (rowV V 0).length := ⟨_, rfl⟩
    have hm7 : 1 ≤ m ∧ m ≤ 7 := by rw [hm]; exact hv1.2.1
    have HR := Lib.hid (And.intro hm (valV_rows HB.out.1.symm hm))
    clear hv1 hm
    go_wp2_with fail
    refine (best_any A n cap m V 78 #[.pointer (some ⟨w.heap.size, 0, none⟩)] (fun t => sortTo (ownV V (dz n m t) n) n) w1 ent_least1 (fun t => by rw [sortTo_length, ownV_length]; omega) H.out.1 hn4 HR.out.1 hm7 (H.out.2.1.below HB.out.2.2) ?hs).mono ?_
    case hs =>
      intro t w' ht hb' hB
      have hw := hb'.size
      refine least1_any A n cap (some ⟨w1.heap.size + 3, 0, none⟩) m m w.heap.size V (dz n m t) w' ?_ H.out.1 hn4 (dz_length _ _ _) hm7.2 (by rw [← H.out.1]; exact HR.out.2) ((H.out.2.1.below HB.out.2.2).below hb') (blk_ints hB)
      exact (HB.out.2.1.below hb' HB.out.2.1.lt).at1.1
    rintro e w2 ⟨A2, c2, Am, cm, rfl, g1, g2, g3, g4, g5, g6, g7⟩
    have HF := Lib.hid (And.intro g3 g7)
    have hbb : leastB V = bst (fun t => sortTo (ownV V (dz n m t) n) n) (n ^ m) := by unfold leastB; rw [H.out.1, ← HR.out.1]
    have HBB := Lib.hid hbb
    clear g3 g6 g7 hbb
    generalize bst (fun t => sortTo (ownV V (dz n m t) n) n) (n ^ m) = bb at *
    generalize (sortTo (ownV V (dz n m bb) n) n).length = lb at *
    go_wp2_with fail
    go_ret2
    refine .inr ⟨HB.out.1.symm, A2, c2, ?_, by rw [← HR.out.1]; exact g1, g2, ?_, HB.out.2.2.trans (HF.out.2.mono HB.out.2.2.size)⟩
    · rw [← HR.out.1]; rfl
    · rw [H.out.1, ← HR.out.1, HBB.out]; exact HF.out.1

/- Contracts: the copies of the beginning of an argument that the statements of package corrodylaw01 make. -/

set_option maxHeartbeats 400000 in
theorem list_any (A : Option Addr) (n cap : Nat) (xs : List Int) (w : World) (hl : xs.length = n) (hc : n ≤ cap) (hm : cap ≤ 9223372036854775807) (h : Ints w A xs) :
    Calls Try.prog 20 #[.slice A n cap] w fun e w' => ∃ A' c, e = .returned (.slice A' (min n 9) c) ∧ w'.ownsRow w.heap.size 3 1 (.slice A' (min n 9) c) (min n 9) ((xs.take 9).map (Value.int .i64)) ∧ Below w.heap.size w w' := by
  have h9 : min n 9 ≤ 9 := by omega
  have hk := h.take 9
  have hl' : (xs.take 9).length = min n 9 := by rw [List.length_take, hl]; omega
  have HK := Lib.hid hk
  have HL := Lib.hid hl'
  clear hk h hl hl'
  by_cases h0 : n ≤ 9
  · have e0 : min n 9 = n := by omega
    rw [e0]
    have HE := Lib.hid e0
    clear e0
    go_enter Try.func20, Try.ntmps20
    go_wp2_with fail
    refine (clone_any A n cap (xs.take 9) _ (by rw [HL.out, HE.out]) (by omega) HK.out).mono ?_
    rintro e w' ⟨A', c, rfl, hown, hb⟩
    have HO := Lib.hid hown
    have HB := Lib.hid hb
    clear hown hb
    go_wp2
    go_ret
    exact ⟨A', c, rfl, HO.out, HB.out⟩
  · have e0 : min n 9 = 9 := by omega
    rw [e0]
    have HE := Lib.hid e0
    clear e0
    go_enter Try.func20, Try.ntmps20
    go_wp2_with fail
    refine (clone_any A 9 cap (xs.take 9) _ (by rw [HL.out, HE.out]) (by omega) HK.out).mono ?_
    rintro e w' ⟨A', c, rfl, hown, hb⟩
    have HO := Lib.hid hown
    have HB := Lib.hid hb
    clear hown hb
    go_wp2
    go_ret
    exact ⟨A', c, rfl, HO.out, HB.out⟩

/- The copies of arguments, read plainly. -/

theorem lst_any (A : Option Addr) (n cap : Nat) (xs : List Int) (w : World) (hl : xs.length = n) (hc : n ≤ cap) (hm : cap ≤ 9223372036854775807) (h : Ints w A xs) :
    Calls Try.prog 20 #[.slice A n cap] w fun e w' => ∃ A' k c, e = .returned (.slice A' k c) ∧ (xs.take 9).length = k ∧ k ≤ 9 ∧ k ≤ c ∧ c ≤ 9223372036854775807 ∧ Ints w' A' (xs.take 9) ∧ Below w.heap.size w w' := by
  refine (list_any A n cap xs w hl hc hm h).mono ?_
  rintro e w' ⟨A', c, rfl, hown, hb⟩
  obtain ⟨_, _, he, h1, h2, _⟩ := own_form hown
  injection he with _ _ he
  subst he
  exact ⟨A', min n 9, c, rfl, by rw [List.length_take, hl, Nat.min_comm], by omega, h1, h2, At.of_own hown, hb⟩


/- Contracts: Worth and own of the reference (package corrodyref01); turned from those of package split. -/

set_option maxHeartbeats 800000 in
theorem r1worth_any (A : Option Addr) (n cap : Nat) (D : Option Addr) (m capd i : Nat) (j : Int) (V : List (List Int)) (d : List Int) (w : World) (hl : V.length = n) (hn : n ≤ 1000) (hi : i < n) (hld : d.length = m) (hm : m ≤ 1000)
    (hr : (rowV V i).length = m) (hrb : ∀ x ∈ rowV V i, 0 ≤ x ∧ x ≤ 100) (hV : Mat w A V) (hD : Ints w D d) :
    Calls Try.prog 67 #[.slice A n cap, .slice D m capd, .int .i64 i, .int .i64 j] w fun e w' => e = .returned (.int .i64 (wor V d i j)) ∧ w = w' := by
  obtain ⟨ad, rfl, _, hc⟩ := hV.some_ (by omega)
  obtain ⟨A', c, h1, h2, h3, h4⟩ := hc i _ (List.getElem?_eq_getElem (by omega))
  have er : rowV V i = V[i]'(by omega) := rowV_get (List.getElem?_eq_getElem (by omega))
  rw [← er] at h1 h2 h4
  rw [hr] at h1 h2
  have hID := fun (hp : 0 < d.length) => hD.some_ hp
  have hIR := fun (hp : 0 < (rowV V i).length) => h4.some_ hp
  have hw : wor V d i j = worTo (rowV V i) d j m := by unfold wor; rw [hld]
  have H := Lib.hid (And.intro hld (And.intro hr (And.intro hrb (And.intro hID (And.intro hIR hw)))))
  have l1 : (i : Int) < (n : Int) := by omega
  have l2 : (0 : Int) ≤ (i : Int) := by omega
  clear hl hld hr hrb hV hD hc h4 er hID hIR hw
  go_enter Try.func67, Try.ntmps67
  go_wp2_with fail
  go_loop [9, 14] (fun s g => ∃ k : Nat, k ≤ m ∧ g = .int .i64 k ∧ s = .int .i64 (worTo (rowV V i) d j k)) (fun _ g => m - (intOf g).toNat)
  case atStart => exact ⟨0, Nat.zero_le _, rfl, rfl⟩
  case round =>
    obtain ⟨k, hk, rfl, rfl⟩ := hrel
    by_cases hlt : k < m
    · obtain ⟨hld, hr, hrb, hID, hIR, hw⟩ := H.out
      obtain ⟨bd, rfl, _, hcd⟩ := hID (by omega)
      obtain ⟨br, rfl, _, hcr⟩ := hIR (by omega)
      obtain ⟨y, hy⟩ : ∃ y, d[k]? = some y := ⟨_, List.getElem?_eq_getElem (by omega)⟩
      obtain ⟨x, hx⟩ : ∃ x, (rowV V i)[k]? = some x := ⟨_, List.getElem?_eq_getElem (by omega)⟩
      have c1 := hcd k y hy
      have c2 := hcr k x hx
      have hb := worTo_bd hrb d j k
      have hxb := hrb x (List.mem_of_getElem? hx)
      have hs : worTo (rowV V i) d j (k + 1) = worTo (rowV V i) d j k + if y = j then x else 0 := by
        rw [worTo, List.getD_eq_getElem?_getD, List.getD_eq_getElem?_getD, hy, hx]; rfl
      obtain ⟨s, hse⟩ : ∃ s, s = worTo (rowV V i) d j k := ⟨_, rfl⟩
      rw [← hse] at hb hs ⊢
      have HS := Lib.hid hs
      clear hld hr hrb hID hIR hw hcd hcr hy hx hs hse
      by_cases he : y = j
      · have hb2 : (y == j) = true := by simp [he]
        have HN : Hid (worTo (rowV V i) d j (k + 1) = s + x) := Lib.hid (by rw [HS.out, if_pos he])
        clear he
        go_wp2_with fail
        go_round
        case rel => exact ⟨k + 1, by omega, by go_num, by rw [HN.out]⟩
        case measure => simp [intOf]; omega
      · have hb2 : (y == j) = false := by simp [he]
        have HN : Hid (worTo (rowV V i) d j (k + 1) = s) := Lib.hid (by rw [HS.out, if_neg he]; omega)
        clear he
        go_wp2_with fail
        go_round
        case rel => exact ⟨k + 1, by omega, by go_num, by rw [HN.out]⟩
        case measure => simp [intOf]; omega
    · obtain rfl : m = k := by omega
      have HW := Lib.hid H.out.2.2.2.2.2
      go_wp2_with fail
      go_ret
      exact ⟨ret_int HW.out.symm, rfl⟩

set_option maxHeartbeats 800000 in
theorem r1own_any (A : Option Addr) (n cap : Nat) (D : Option Addr) (m capd : Nat) (V : List (List Int)) (d : List Int) (w : World) (hl : V.length = n) (hn : n ≤ 1000) (hld : d.length = m) (hm : m ≤ 1000)
    (hr : ∀ i, i < n → (rowV V i).length = m ∧ ∀ x ∈ rowV V i, 0 ≤ x ∧ x ≤ 100) (hV : Mat w A V) (hD : Ints w D d) :
    Calls Try.prog 81 #[.slice A n cap, .slice D m capd] w fun e w' => ∃ A' c, e = .returned (.slice A' n c) ∧ w'.ownsRow w.heap.size 3 1 (.slice A' n c) n ((ownV V d n).map (Value.int .i64)) ∧ Below w.heap.size w w' := by
  have H := Lib.hid (And.intro hl (And.intro hld (And.intro hr (And.intro hV hD))))
  clear hl hld hr hV hD
  go_enter Try.func81, Try.ntmps81
  go_wp2_with fail
  go_loopw [5, 9] (fun ov iv wr => ∃ (k : Nat) (B : Option Addr) (bc : Nat), k ≤ n ∧ iv = .int .i64 k ∧ ov = .slice B k bc ∧ wr.ownsRow w.heap.size 3 1 (.slice B k bc) k ((ownV V d k).map (Value.int .i64)) ∧ Below w.heap.size w wr) (fun _ iv _ => n - (intOf iv).toNat)
  case atStart => exact ⟨0, none, 0, Nat.zero_le _, rfl, rfl, World.ownsRow_nil _ _ _ _, Below.refl _ _⟩
  case round =>
    obtain ⟨k, B, bc, hk, rfl, rfl, hown, hbl⟩ := hrel
    have HR := Lib.hid (And.intro hown hbl)
    have hws := hbl.size
    clear hown hbl
    by_cases hlt : k < n
    · have HNEW : Hid ((ownV V d (k + 1)).map (Value.int .i64) = (ownV V d k).map (Value.int .i64) ++ [.int .i64 (wor V d k (k : Int))]) := Lib.hid (by rw [ownV_succ]; simp)
      go_wp2_with fail
      refine (r1worth_any A n cap D m capd k (k : Int) V d _ H.out.1 hn hlt H.out.2.1 hm (H.out.2.2.1 k hlt).1 (H.out.2.2.1 k hlt).2 (H.out.2.2.2.1.below HR.out.2) (H.out.2.2.2.2.below HR.out.2)).mono ?_
      rintro e w' ⟨rfl, rfl⟩
      generalize wor V d k (k : Int) = x at HNEW ⊢
      go_wp2_with (at_builtin; refine app1 sty_int rfl _ _ rfl w.heap.size B k bc _ #[.int .i64 x] rfl (by simp [Value.oneCell']) rfl HR.out.1 rfl (by omega) (by omega) ?_)
      intro A4 k4 w4 hown4 _ hbl4 hk41 hk42
      rw [← HNEW.out] at hown4
      have HR4 := Lib.hid (And.intro hown4 (HR.out.2.trans hbl4))
      clear hown4 hbl4
      go_wp2_with fail
      go_roundw
      case rel => exact ⟨k + 1, A4, k4, by omega, by go_num, rfl, HR4.out.1, HR4.out.2⟩
      case measure => simp [intOf]; omega
    · obtain rfl : n = k := by omega
      go_wp2_with fail
      go_ret
      exact ⟨B, bc, rfl, HR.out.1, HR.out.2⟩

/- Contract: IsBetter of the reference (package corrodyref01). -/

/-- Some number of the first is less than that of the second. -/
def lessAny (x y : List Int) : Bool := (x.zip y).any fun p => decide (p.1 < p.2)
/-- No number is less, and some is more. -/
def bet (x y : List Int) : Bool := !lessAny x y && lessAny y x
theorem lessAny_take {x y : List Int} {k : Nat} {a b : Int} (hx : x[k]? = some a) (hy : y[k]? = some b) : lessAny (x.take (k + 1)) (y.take (k + 1)) = (lessAny (x.take k) (y.take k) || decide (a < b)) := by
  have hz : ∀ j, (x.take j).zip (y.take j) = (x.zip y).take j := fun j => by simp [List.zip, List.take_zipWith]
  unfold lessAny
  rw [hz, hz, List.take_add_one, (List.getElem?_zip_eq_some (z := (a, b))).2 ⟨hx, hy⟩]
  simp
theorem lessAny_at {x y : List Int} {k : Nat} {a b : Int} (hx : x[k]? = some a) (hy : y[k]? = some b) (h : a < b) : lessAny x y = true :=
  List.any_eq_true.2 ⟨(a, b), List.mem_of_getElem? ((List.getElem?_zip_eq_some (z := (a, b))).2 ⟨hx, hy⟩), by simpa using h⟩
theorem bet_eq {x y : List Int} (h : x.length = y.length) : bet x y = (!lessAny x y && !decide (x = y)) := by
  unfold bet
  cases hw : lessAny x y
  · simp only [Bool.not_false, Bool.true_and]
    rw [Bool.eq_iff_iff]
    simp only [Bool.not_eq_true', decide_eq_false_iff_not]
    constructor
    · rintro hm rfl
      rw [hw] at hm; cases hm
    · intro hne
      apply Decidable.byContradiction
      intro hm
      rw [Bool.not_eq_true] at hm
      apply hne
      apply List.ext_getElem? 
      intro k
      by_cases hk : k < x.length
      · have e1 : x[k]? = some (x[k]'hk) := List.getElem?_eq_getElem hk
        have e2 : y[k]? = some (y[k]'(by omega)) := List.getElem?_eq_getElem (by omega)
        rw [e1, e2]
        congr 1
        apply Int.le_antisymm
        · apply Int.not_lt.1; intro hlt; rw [lessAny_at e2 e1 hlt] at hm; cases hm
        · apply Int.not_lt.1; intro hlt; rw [lessAny_at e1 e2 hlt] at hw; cases hw
      · rw [List.getElem?_eq_none (by omega), List.getElem?_eq_none (by omega)]
  · rfl

set_option maxRecDepth 100000 in
set_option maxHeartbeats 1600000 in
theorem isbetter_any (A : Option Addr) (n cap : Nat) (D E : Option Addr) (m capd cape : Nat) (V : List (List Int)) (d f : List Int) (w : World) (hl : V.length = n) (hn : n ≤ 1000) (hld : d.length = m) (hle : f.length = m) (hm : m ≤ 1000)
    (hr : ∀ i, i < n → (rowV V i).length = m ∧ ∀ x ∈ rowV V i, 0 ≤ x ∧ x ≤ 100) (hV : Mat w A V) (hD : Ints w D d) (hE : Ints w E f) :
    Calls Try.prog 56 #[.slice A n cap, .slice D m capd, .slice E m cape] w fun e w' => e = .returned (.bool (bet (ownV V d n) (ownV V f n))) ∧ Below w.heap.size w w' := by
  have H := Lib.hid (And.intro hl (And.intro hld (And.intro hle (And.intro hr (And.intro hV (And.intro hD hE))))))
  clear hl hld hle hr hV hD hE
  obtain ⟨x, hx⟩ : ∃ x, x = ownV V d n := ⟨_, rfl⟩
  obtain ⟨y, hy⟩ : ∃ y, y = ownV V f n := ⟨_, rfl⟩
  rw [← hx, ← hy]
  have HXY := Lib.hid (And.intro hx (And.intro hy (And.intro (show x.length = n by rw [hx, ownV_length]) (show y.length = n by rw [hy, ownV_length]))))
  clear hx hy
  go_enter Try.func56, Try.ntmps56
  go_wp2_with fail
  refine (r1own_any A n cap D m capd V d _ H.out.1 hn H.out.2.1 hm H.out.2.2.2.1 H.out.2.2.2.2.1 H.out.2.2.2.2.2.1).mono ?_
  rintro e w1 ⟨A1, c1, rfl, hown, hb⟩
  have hI1 : Ints w1 A1 x := by rw [HXY.out.1]; exact At.of_own hown
  have H1 := Lib.hid (And.intro hI1 hb)
  clear hown hI1 hb
  go_wp2_with fail
  refine (r1own_any A n cap E m cape V f _ H.out.1 hn H.out.2.2.1 hm H.out.2.2.2.1 (H.out.2.2.2.2.1.below H1.out.2) (H.out.2.2.2.2.2.2.below H1.out.2)).mono ?_
  rintro e w2 ⟨A2, c2, rfl, hown, hb⟩
  have hI2 : Ints w2 A2 y := by rw [HXY.out.2.1]; exact At.of_own hown
  have H2 := Lib.hid (And.intro (H1.out.1.below hb) (And.intro hI2 (And.intro (H1.out.2.trans (hb.mono H1.out.2.size)) HXY.out.2.2)))
  clear hown hI2 hb H H1 HXY
  go_wp2_with fail
  go_loopw [7, 19] (fun bv iv wr => ∃ k : Nat, k ≤ n ∧ iv = .int .i64 k ∧ bv = .bool (lessAny (y.take k) (x.take k)) ∧ lessAny (x.take k) (y.take k) = false ∧ Below w2.heap.size w2 wr) (fun _ iv _ => n - (intOf iv).toNat)
  case atStart => exact ⟨0, Nat.zero_le _, rfl, rfl, rfl, Below.refl _ _⟩
  case round =>
    obtain ⟨k, hk, rfl, rfl, hla, hbl⟩ := hrel
    obtain ⟨wo, rfl⟩ : ∃ wo : World, wo = wr := ⟨_, rfl⟩
    have HR := Lib.hid (And.intro hla hbl)
    clear hla hbl
    by_cases hlt : k < n
    · obtain ⟨a, ha⟩ : ∃ a, x[k]? = some a := ⟨_, List.getElem?_eq_getElem (by have := H2.out.2.2.2.1; omega)⟩
      obtain ⟨b, hb⟩ : ∃ b, y[k]? = some b := ⟨_, List.getElem?_eq_getElem (by have := H2.out.2.2.2.2; omega)⟩
      obtain ⟨ax, rfl, hcx⟩ := H2.out.1 k (.int .i64 a) (by rw [List.getElem?_map, ha]; rfl)
      obtain ⟨ay, rfl, hcy⟩ := H2.out.2.1 k (.int .i64 b) (by rw [List.getElem?_map, hb]; rfl)
      have hcx2 := (HR.out.2.cell (lt_of_cell hcx)).trans hcx
      have hcy2 := (HR.out.2.cell (lt_of_cell hcy)).trans hcy
      have HT := Lib.hid (And.intro (lessAny_take ha hb) (lessAny_take hb ha))
      have HN := Lib.hid (And.intro ha hb)
      have l1 : (k : Int) < (n : Int) := by omega
      clear ha hb hcx hcy
      by_cases hab : a < b
      · have HF : Hid (false = bet x y) := Lib.hid (by unfold bet; rw [lessAny_at HN.out.1 HN.out.2 hab]; rfl)
        have HB := Lib.hid (H2.out.2.2.1.trans (HR.out.2.mono H2.out.2.2.1.size))
        go_wp2_with fail
        go_quiet (fail)
        go_wp2_with fail
        go_ret
        exact ⟨ret_bool HF.out, below_drewN HB.out _⟩
      · have hla : lessAny (x.take (k + 1)) (y.take (k + 1)) = false := by rw [HT.out.1, HR.out.1, decide_eq_false hab]; rfl
        have HT2 := Lib.hid HT.out.2
        have HLA := Lib.hid hla
        clear hla
        generalize lessAny (y.take k) (x.take k) = mo at *
        cases mo
        · go_wp2_with fail
          go_quiet (fail)
          go_wp2_with fail
          go_quiet (fail)
          go_wp2_with fail
          go_roundw
          case rel => exact ⟨k + 1, by omega, by go_num, by rw [HT2.out]; rfl, HLA.out, below_drewN HR.out.2 _⟩
          case measure => simp [intOf]; omega
        · go_wp2_with fail
          go_quiet (fail)
          go_wp2_with fail
          go_quiet (fail)
          go_wp2_with fail
          go_roundw
          case rel => exact ⟨k + 1, by omega, by go_num, by rw [HT2.out]; rfl, HLA.out, below_drewN HR.out.2 _⟩
          case measure => simp [intOf]; omega
    · obtain rfl : k = n := by omega
      have hT : x.take k = x := List.take_of_length_le (by have := H2.out.2.2.2.1; omega)
      have hT2 : y.take k = y := List.take_of_length_le (by have := H2.out.2.2.2.2; omega)
      have HF : Hid (lessAny (y.take k) (x.take k) = bet x y) := Lib.hid (by have := HR.out.1; rw [hT, hT2] at *; unfold bet; rw [this]; rfl)
      have HB := Lib.hid (H2.out.2.2.1.trans (HR.out.2.mono H2.out.2.2.1.size))
      rw [HF.out]
      clear hT hT2
      go_wp2_with fail
      go_ret
      exact ⟨rfl, HB.out⟩

/- Where a slice lies after append: where it lay, or in new memory. -/

/-- The first lies where the second lies, or in new memory. -/
def Stay (w : World) (v' v : Value) : Prop := ∀ ad' n' k', v' = .slice (some ad') n' k' → (∃ n k, v = .slice (some ad') n k) ∨ w.heap.size ≤ ad'.block

theorem run_where {T e : TypeId} {z : Value} {size bytes : Nat} (ty : STy T e z size bytes) (rt : TypeId) {w w' : World} {base : Nat} {v v' : Value} {n : Nat} {xs : List Value} (hown : w.ownsRow base e size v n xs)
    {a : Addr} {m c : Nat} {news : List Value} (hl : news.length = m * size) (hnews : ∀ j u, news[j]? = some u → w.cell? (a.add j) = some u) (h1 : ∀ u ∈ news, u.oneCell' = true)
    (hn : n + m ≤ 1000000) (hr : (Builtin.append_ #[T, T] rt #[v, .slice (some a) m c]).run Try.prog w = .ok v' w') (hm : 0 < m) : Stay w v' v := by
  obtain ⟨i0, hi, hz0, hz1, hz2⟩ := info_parts ty.inf
  have hb : (n + m) * i0.bytes ≤ 140737488355328 := by
    have h2 := ty.hby
    rw [hz2]
    calc (n + m) * bytes ≤ 1000000 * 100 := Nat.mul_le_mul (by omega) h2
      _ ≤ _ := by decide
  have hb2 : m * i0.bytes ≤ 281474976710656 := Nat.le_trans (Nat.mul_le_mul_right _ (by omega)) (Nat.le_trans hb (by decide))
  intro ad' n' k' he
  rcases hown.2 with ⟨rfl, rfl⟩ | ⟨g, cap, cur, rfl, hbg, hg, hnc, hcm, hcs, htake⟩
  · have h := run_append_nil (P := Try.prog) w T rt e i0 z ty.ht hi hz0 a m c news (by rw [hz1]; exact hl) hnews hm (by omega) hb2
    rw [h] at hr
    injection hr with hr _
    rw [← hr] at he
    injection he with he
    injection he with he
    exact .inr (by rw [← he]; exact Nat.le_refl _)
  · by_cases hroom : n + m ≤ cap
    · have hfit : n * i0.size + news.length ≤ cur.size := by rw [hz1, hl, hcs, ← Nat.add_mul]; exact Nat.mul_le_mul_right _ hroom
      have h := run_append_room (P := Try.prog) w T rt e i0 ty.ht hi g n cap cur hg a m c news (by rw [hz1]; exact hl) hnews h1 hroom hfit
      rw [h] at hr
      injection hr with hr _
      rw [← hr] at he
      injection he with he
      exact .inl ⟨n, cap, by rw [he]⟩
    · have holds : ∀ j u, xs[j]? = some u → w.cell? ((⟨g, 0, none⟩ : Addr).add j) = some u := hown.cells (g := g) rfl
      have h := run_append_grow (P := Try.prog) w T rt e i0 z ty.ht hi hz0 ⟨g, 0, none⟩ n cap xs (by rw [hz1]; exact hown.1) holds a m c news (by rw [hz1]; exact hl) hnews (by omega) (by omega) (growslice_fits (by omega) hb)
      rw [h] at hr
      injection hr with hr _
      rw [← hr] at he
      injection he with he
      injection he with he
      exact .inr (by rw [← he]; exact Nat.le_refl _)

theorem wp_app1w {T e : TypeId} {z : Value} {bytes : Nat} (ty : STy T e z 1 bytes) {o : Oper} {a : Act} {K : Act → World → Prop} {Q : Exit → Act → World → Prop} {w : World}
    (s x : Operand) (ho : o.op = .call { callee := .builtin .append, args := #[s, x], argTypes := #[T, T] })
    (base : Nat) (A : Option Addr) (n k : Nat) (xs : List Value) (u : Value) (h1 : u.oneCell' = true)
    (hs : a.eval s = .slice A n k) (hown : w.ownsRow base e 1 (.slice A n k) n xs) (g : Nat) (hx : a.eval x = .slice (some ⟨g, 0, none⟩) 1 1) (hg : g = w.heap.size)
    (hn : n ≤ 100000) (hb : base ≤ w.heap.size)
    (h : ∀ (A' : Option Addr) (k' : Nat) (w' : World), w'.ownsRow base e 1 (.slice A' (n + 1) k') (n + 1) (xs ++ [u]) → w.grownBy w' (Value.slice A n k).ownBlock → Below base w w' → n + 1 ≤ k' → k' ≤ 9223372036854775807 → Stay w (.slice A' (n + 1) k') (.slice A n k) →
      K (a.put o.dst (.slice A' (n + 1) k')) w') : o.wp Try.prog a (w.alloc (.cells #[u] e)) K Q := by
  subst hg
  obtain ⟨i0, hi, hz0, hz1, hz2⟩ := info_parts ty.inf
  have hnews : ∀ j x, [u][j]? = some x → (w.alloc (.cells #[u] e)).cell? ((⟨w.heap.size, 0, none⟩ : Addr).add j) = some x := by
    intro j x hx
    exact (At.some2 (Blk.new w e #[u] rfl).at_) j x hx
  have hbytes : (n + 1) * bytes ≤ 140737488355328 := by
    have h2 := ty.hby
    calc (n + 1) * bytes ≤ 1000000 * 100 := Nat.mul_le_mul (by omega) h2
      _ ≤ _ := by decide
  have hone : ∀ x ∈ [u], x.oneCell' = true := by intro x hx; rw [List.mem_singleton.1 hx]; exact h1
  obtain ⟨v', w', hr, hown', hg, _⟩ := run_append_own (P := Try.prog) (w.alloc (.cells #[u] e)) base T o.type e i0 z 1 bytes ty.ht hi hz0 hz1 hz2 ty.hzs ty.hsz (.slice A n k) n xs (hown.alloc _)
    ⟨w.heap.size, 0, none⟩ 1 1 [u] rfl hnews hone (by unfold maxLen; omega) hbytes (by go_size)
  have hst := run_where ty o.type (hown.alloc _) (m := 1) rfl hnews hone (by omega) hr (by omega)
  unfold Oper.wp execOp
  simp only [ho, resolve, invoke, builtin, Sem.run_bind, Sem.run_pure, Result.andThen_ok, List.map_toArray, List.map_cons, List.map_nil, hs, hx, hr]
  obtain ⟨A', k', rfl, hk, hk', _⟩ := own_form hown'
  have hg' : w.grownBy w' (Value.slice A n k).ownBlock :=
    ⟨hg.os, hg.tape, hg.output, Nat.le_trans (by simp) hg.size, fun b hb hne => (hg.block b (Nat.lt_of_lt_of_le hb (by simp)) hne).trans (Below.heap_alloc w _ b hb)⟩
  refine h A' k' w' hown' hg' ?_ hk hk' ?_
  · refine ⟨hg'.os, hg'.tape, hg'.output, hg'.size, fun b hb' => hg'.block b (by omega) fun he => ?_⟩
    have := (hown.lt b he.symm).1
    omega
  · intro ad' n' k'' he
    rcases hst ad' n' k'' he with h | h
    · exact .inl h
    · exact .inr (Nat.le_trans (by simp) h)

theorem app1w {T e : TypeId} {z : Value} {bytes : Nat} (ty : STy T e z 1 bytes) {ops : Array Oper} {rest : List Oper} {o : Oper} {a : Act} {Q : Exit → Act → World → Prop} {w : World}
    (hgd : o.guard = none) (s x : Operand) (ho : o.op = .call { callee := .builtin .append, args := #[s, x], argTypes := #[T, T] })
    (base : Nat) (A : Option Addr) (n k : Nat) (xs : List Value) (u : Value) (h1 : u.oneCell' = true)
    (hs : a.eval s = .slice A n k) (hown : w.ownsRow base e 1 (.slice A n k) n xs) (g : Nat) (hx : a.eval x = .slice (some ⟨g, 0, none⟩) 1 1) (hg : g = w.heap.size)
    (hn : n ≤ 100000) (hb : base ≤ w.heap.size)
    (h : ∀ (A' : Option Addr) (k' : Nat) (w' : World), w'.ownsRow base e 1 (.slice A' (n + 1) k') (n + 1) (xs ++ [u]) → w.grownBy w' (Value.slice A n k).ownBlock → Below base w w' → n + 1 ≤ k' → k' ≤ 9223372036854775807 → Stay w (.slice A' (n + 1) k') (.slice A n k) →
      wpList Try.prog ops Q rest (a.put o.dst (.slice A' (n + 1) k')) w') : wpList Try.prog ops Q (o :: rest) a (w.alloc (.cells #[u] e)) :=
  wpList_plain hgd fun _ hK => wp_app1w ty s x ho base A n k xs u h1 hs hown g hx hg hn hb fun A' k' w' a1 a2 a3 a4 a5 a6 => hK _ _ (h A' k' w' a1 a2 a3 a4 a5 a6)

/- All divisions, as the reference makes them; contract of Divisions. -/

/-- Each person below i ahead of each list. -/
def divsTo (L : List (List Int)) (i : Nat) : List (List Int) := (List.range i).flatMap fun j : Nat => L.map (List.cons (j : Int))
def divs (n : Nat) : Nat → List (List Int)
  | 0 => [[]]
  | m + 1 => divsTo (divs n m) n
theorem divsTo_succ (L : List (List Int)) (i : Nat) : divsTo L (i + 1) = divsTo L i ++ L.map (List.cons (i : Int)) := by
  simp [divsTo, List.range_succ, List.flatMap_append]
theorem divsTo_length (L : List (List Int)) (i : Nat) : (divsTo L i).length = i * L.length := by
  induction i with
  | zero => simp [divsTo]
  | succ i ih => rw [divsTo_succ, List.length_append, ih, List.length_map, Nat.add_mul, Nat.one_mul]
theorem divs_length (n m : Nat) : (divs n m).length = n ^ m := by
  induction m with
  | zero => rfl
  | succ m ih => rw [divs, divsTo_length, ih, Nat.pow_succ, Nat.mul_comm]
theorem divs_mem {n m : Nat} {l : List Int} (h : l ∈ divs n m) : l.length = m := by
  induction m generalizing l with
  | zero => simp [divs] at h; subst h; rfl
  | succ m ih =>
    simp only [divs, divsTo, List.mem_flatMap, List.mem_map] at h
    obtain ⟨j, _, x, hx, rfl⟩ := h
    simp [ih hx]
theorem dig_head {n : Nat} (hn : 0 < n) (m : Nat) : ∀ (i t : Nat), i < n → t < n ^ m → dig n (m + 1) (i * n ^ m + t) = i :: dig n m t := by
  induction m with
  | zero =>
    intro i t hi ht
    obtain rfl : t = 0 := by simpa using ht
    simp [dig, Nat.mod_eq_of_lt hi]
  | succ m ih =>
    intro i t hi ht
    have e1 : (i * n ^ (m + 1) + t) / n = i * n ^ m + t / n := by
      rw [Nat.pow_succ, ← Nat.mul_assoc, Nat.mul_comm _ n, Nat.mul_add_div hn]
    have e2 : (i * n ^ (m + 1) + t) % n = t % n := by
      rw [Nat.pow_succ, ← Nat.mul_assoc, Nat.mul_comm _ n, Nat.mul_add_mod]
    have h3 : t / n < n ^ m := by rw [Nat.div_lt_iff_lt_mul hn, ← Nat.pow_succ]; exact ht
    rw [show dig n (m + 1 + 1) (i * n ^ (m + 1) + t) = dig n (m + 1) ((i * n ^ (m + 1) + t) / n) ++ [(i * n ^ (m + 1) + t) % n] from rfl, e1, e2, ih i (t / n) hi h3]
    rfl
theorem divs_eq {n : Nat} (hn : 0 < n) (m : Nat) : divs n m = (List.range (n ^ m)).map (dz n m) := by
  induction m with
  | zero => rfl
  | succ m ih =>
    have key : ∀ i, i ≤ n → divsTo (divs n m) i = (List.range (i * n ^ m)).map (dz n (m + 1)) := by
      intro i
      induction i with
      | zero => intro _; simp [divsTo]
      | succ i ih2 =>
        intro hi
        rw [divsTo_succ, ih2 (by omega), Nat.add_mul, Nat.one_mul, List.range_add, List.map_append, ih, List.map_map, List.map_map]
        congr 1
        apply List.map_congr_left
        intro t ht
        show _ = dz n (m + 1) (i * n ^ m + t)
        unfold dz
        rw [dig_head hn m i t (by omega) (List.mem_range.1 ht)]
        rfl
    rw [divs, key n (Nat.le_refl _), Nat.pow_succ, Nat.mul_comm]
theorem divs_small {n m : Nat} (hn : n ≤ 4) (hm : m ≤ 7) : n ^ m ≤ 16384 :=
  Nat.le_trans (Nat.pow_le_pow_left hn m) (Nat.le_trans (Nat.pow_le_pow_right (by omega) hm) (by decide))

/-- Slices of nil are empty. -/
def NoneZ (vs : List Value) : Prop := ∀ v ∈ vs, ∀ n c, v = .slice none n c → n = 0 ∧ c = 0
theorem NoneZ.snoc {vs : List Value} {A : Addr} {n c : Nat} (h : NoneZ vs) : NoneZ (vs ++ [.slice (some A) n c]) := by
  intro v hv n' c' he
  rcases List.mem_append.1 hv with hv | hv
  · exact h v hv n' c' he
  · rw [List.mem_singleton.1 hv] at he; cases he

/-- What Divisions leaves. -/
def DivPost (L : List (List Int)) (w : World) (e : Ending) (w' : World) : Prop :=
  ∃ A c vs, e = .returned (.slice A L.length c) ∧ w'.ownsRow w.heap.size 23 1 (.slice A L.length c) L.length vs ∧ Rows w' 0 vs L ∧ NoneZ vs ∧ Below w.heap.size w w'

set_option maxRecDepth 100000 in
set_option maxHeartbeats 1600000 in
theorem divisions_any (n : Nat) (hn : 1 ≤ n ∧ n ≤ 4) (m : Nat) : ∀ (w : World), m ≤ 7 →
    Calls Try.prog 55 #[.int .i64 n, .int .i64 m] w (DivPost (divs n m) w) := by
  induction m with
  | zero =>
    intro w _
    go_enter Try.func55, Try.ntmps55
    go_wp2_with fail
    go_ret
    refine ⟨_, 1, [.slice none 0 0], rfl, own_new (w := w) 23 #[.slice none 0 0] (show 1 ≤ maxLen by decide), Rows.one_ ⟨none, 0, rfl, Nat.le_refl _, by omega, (fun j u h => by simp at h), fun ad h => by cases h⟩, (fun v hv n c he => by rw [List.mem_singleton.1 hv] at he; injection he with _ h1 h2; exact ⟨h1.symm, h2.symm⟩), (Below.refl _ _).alloc (Nat.le_refl _) _⟩
  | succ m ih =>
    intro w hm
    have IH := Lib.hid ih
    have hps := divs_small hn.2 (show m ≤ 7 by omega)
    rw [← divs_length] at hps
    have hmem := fun l => @divs_mem n m l
    obtain ⟨L, hL⟩ : ∃ L, L = divs n m := ⟨_, rfl⟩
    have hpos : 0 < L.length := by rw [hL, divs_length]; exact Nat.pow_pos (by omega)
    rw [show divs n (m + 1) = divsTo (divs n m) n from rfl, ← hL]
    rw [← hL] at hps hmem
    have HL := Lib.hid (And.intro hL hmem)
    clear ih hL hmem
    have hne : (((m + 1 : Nat) : Int) == 0) = false := by rw [beq_eq_false_iff_ne]; omega
    have hm1 : ((m + 1 : Nat) : Int) - 1 = (m : Int) := by omega
    obtain ⟨M, hM⟩ : ∃ M : Nat, M = m + 1 := ⟨_, rfl⟩
    rw [← hM] at hne hm1 ⊢
    have HM := Lib.hid hM
    have hM7 : M ≤ 7 := by omega
    clear hM
    go_enter Try.func55, Try.ntmps55
    go_wp2_with fail
    go_loopw [5, 13] (fun ov iv wr => ∃ (i : Nat) (B : Option Addr) (q bc : Nat) (vs : List Value), i ≤ n ∧ iv = .int .i64 i ∧ ov = .slice B q bc ∧ q = (divsTo L i).length ∧ wr.ownsRow w.heap.size 23 1 (.slice B q bc) q vs ∧ Rows wr 0 vs (divsTo L i) ∧ Below w.heap.size w wr ∧ NoneZ vs) (fun _ iv _ => n - (intOf iv).toNat)
    case atStart => exact ⟨0, none, 0, 0, [], Nat.zero_le _, rfl, rfl, rfl, World.ownsRow_nil _ _ _ _, Rows.nil, Below.refl _ _, fun v hv => by cases hv⟩
    case round =>
      obtain ⟨i, B, q, bc, vs, hi, rfl, rfl, hq, hown, hrows, hbl, hnz⟩ := hrel
      have HNZ := Lib.hid hnz
      clear hnz
      obtain ⟨wo, rfl⟩ : ∃ wo : World, wo = wr := ⟨_, rfl⟩
      have HR := Lib.hid (And.intro hown (And.intro hrows (And.intro hbl hq)))
      have hwsz := hbl.size
      clear hown hrows hbl hq
      by_cases hlt : i < n
      · go_wp2_with fail
        refine (IH.out _ (by omega)).mono ?_
        rw [← HL.out.1]
        rintro e w4 ⟨A4, c4, vs4, rfl, hown4, hrows4, hnz4, hbl4⟩
        have HNZ4 := Lib.hid hnz4
        clear hnz4
        obtain ⟨g4, rfl, hg4, hg4b⟩ := own_some hown4 hpos
        obtain ⟨ql, hql⟩ : ∃ ql, ql = L.length := ⟨_, rfl⟩
        have hps2 : ql ≤ 16384 := by rw [hql]; exact hps
        have hpos2 : 0 < ql := by rw [hql]; exact hpos
        have hat4 : At w4 (some ⟨g4, 0, none⟩) vs4 := At.of_own hown4
        have hw4 := hbl4.size
        have hsep : ∀ ad, B = some ad → ad.block ≠ g4 := by
          intro ad had
          have := (HR.out.1.lt ad.block (by rw [had]; rfl)).2
          omega
        have H4 := Lib.hid (And.intro hat4 (And.intro hrows4 (And.intro (own_below HR.out.1 hbl4) (And.intro (HR.out.2.1.below hbl4) (And.intro (HR.out.2.2.1.trans (hbl4.mono hwsz)) (And.intro hsep hql))))))
        rw [← hql]
        clear hown4 hrows4 hbl4 hat4 hsep hql
        go_wp2_with fail
        go_loopw [5, 21] (fun ov jv wr => ∃ (j : Nat) (B : Option Addr) (q bc : Nat) (vs : List Value), j ≤ ql ∧ jv = .int .i64 j ∧ ov = .slice B q bc ∧ q = (divsTo L i).length + j ∧ wr.ownsRow w.heap.size 23 1 (.slice B q bc) q vs ∧ Rows wr 0 vs (divsTo L i ++ (L.take j).map (List.cons (i : Int))) ∧ Below w.heap.size w wr ∧ At wr (some ⟨g4, 0, none⟩) vs4 ∧ Rows wr 0 vs4 L ∧ (∀ ad, B = some ad → ad.block ≠ g4) ∧ NoneZ vs) (fun _ jv _ => ql - (intOf jv).toNat)
        case atStart => exact ⟨0, B, q, bc, vs, Nat.zero_le _, rfl, rfl, by rw [HR.out.2.2.2]; rfl, H4.out.2.2.1, by simpa using H4.out.2.2.2.1, H4.out.2.2.2.2.1, H4.out.1, H4.out.2.1, H4.out.2.2.2.2.2.1, HNZ.out⟩
        case round =>
          obtain ⟨j, B, q, bc, vs, hj, rfl, rfl, hq, hown, hrows, hbl, hat, hrows4, hsep, hnz⟩ := hrel
          have HNZ5 := Lib.hid hnz
          clear hnz
          obtain ⟨wp, rfl⟩ : ∃ wp : World, wp = wr := ⟨_, rfl⟩
          by_cases hlj : j < ql
          · obtain ⟨os, hos⟩ : ∃ os, L[j]? = some os := ⟨_, List.getElem?_eq_getElem (by rw [← H4.out.2.2.2.2.2.2]; exact hlj)⟩
            have hosl := HL.out.2 os (List.mem_of_getElem? hos)
            obtain ⟨v, hv, A', c', rfl, hc1, hc2, hI, _⟩ := hrows4.2 j os hos
            rw [hosl] at hv hc1
            obtain ⟨ad, hadd, hcell⟩ := hat j _ hv
            injection hadd with hadd
            subst hadd
            have hcell' : wp.cell? ⟨g4, j, none⟩ = some (.slice A' m c') := by
              have e : (⟨g4, 0, none⟩ : Addr).add j = ⟨g4, j, none⟩ := by cases j <;> simp [Addr.add]
              rwa [e] at hcell
            have hA0 : A' = none → m = 0 ∧ c' = 0 := fun h => HNZ4.out _ (List.mem_of_getElem? hv) m c' (by rw [h])
            have l1 : (j : Int) < (ql : Int) := by omega
            have hq2 : q ≤ 90000 := by
              rw [hq, divsTo_length]
              have : i * L.length ≤ 4 * 16384 := Nat.mul_le_mul (by omega) hps
              omega
            have HS := Lib.hid (And.intro hown (And.intro hrows (And.intro hbl (And.intro hat (And.intro hrows4 (And.intro hsep (And.intro hI (And.intro hos (And.intro hosl hq)))))))))
            have hwp := hbl.size
            clear hown hrows hbl hat hrows4 hsep hI hos hosl hq hv hcell
            go_wp2_with (at_builtin; refine appN sty_int rfl _ _ rfl wp.heap.size (some ⟨wp.heap.size, 0, none⟩) 1 1 [.int .i64 (i : Int)] rfl ?d1 A' m c' (os.map (Value.int .i64)) hA0 ?d2 ?d3 ?d4 rfl (by omega) (by go_size) ?_)
            case d1 => exact own_new (w := wp) 3 #[.int .i64 (i : Int)] (show 1 ≤ maxLen by decide)
            case d2 => rw [List.length_map, HS.out.2.2.2.2.2.2.2.2.1, Nat.mul_one]
            case d3 => exact HS.out.2.2.2.2.2.2.1.below ((Below.refl _ _).alloc (Nat.le_refl _) _)
            case d4 => exact ints_one _
            intro A6 k6 w6 hown6 _ hbl6 hk61 hk62
            have hown6' : w6.ownsRow wp.heap.size 3 1 (.slice A6 (1 + m) k6) (1 + m) ((((i : Int)) :: os).map (Value.int .i64)) := hown6
            have hb6 : Below wp.heap.size wp w6 := ((Below.refl wp.heap.size wp).alloc (Nat.le_refl _) _).trans hbl6
            have hrow6 := Row1.of_own hown6' 0
            have hw6 := hb6.size
            have hown26 := own_below HS.out.1 hb6
            obtain ⟨ad6, hA6, _⟩ := own_some hown6' (by omega)
            subst hA6
            have hsz6 : g4 < w6.heap.size := Nat.lt_of_lt_of_le (lt_of_cell hcell') hw6
            have H6 := Lib.hid (And.intro hrow6 (And.intro hown26 (And.intro (HS.out.2.1.below hb6) (And.intro (HS.out.2.2.1.trans (hb6.mono hwp)) (And.intro (HS.out.2.2.2.1.below hb6) (HS.out.2.2.2.2.1.below hb6))))))
            clear hown6 hown6' hbl6 hb6 hrow6 hown26
            go_wp2_with (at_builtin; refine app1w sty_intss rfl _ _ rfl w.heap.size B q bc _ (.slice (some ⟨ad6, 0, none⟩) (1 + m) k6) (by simp [Value.oneCell']) rfl H6.out.2.1 w6.heap.size rfl rfl (by omega) (by omega) ?_)
            intro A8 k8 w8 hown8 hg8 hbl8 hk81 hk82 hst8
            have hB : ∀ ad, B = some ad → ad.block ≠ g4 := HS.out.2.2.2.2.2.1
            have hne4 : some g4 ≠ (Value.slice B q bc).ownBlock := by
              cases B with
              | none => intro h; cases h
              | some ad => intro h; injection h with h; exact hB ad rfl h.symm
            have hrows8 : Rows w8 0 (vs ++ [.slice (some ⟨ad6, 0, none⟩) (1 + m) k6]) (divsTo L i ++ (L.take (j + 1)).map (List.cons (i : Int))) := by
              rw [List.take_add_one, HS.out.2.2.2.2.2.2.2.1]
              simp only [Option.toList, List.map_append, List.map_cons, List.map_nil, ← List.append_assoc]
              have hl6 : (1 + m) = (((i : Int)) :: os).length := by simp [HS.out.2.2.2.2.2.2.2.2.1]; omega
              exact (H6.out.2.2.1.grown H6.out.2.1 (Nat.zero_le _) hg8).append (Rows.one_ (H6.out.1.grown H6.out.2.1 (Nat.zero_le _) hg8))
            have hat8 : At w8 (some ⟨g4, 0, none⟩) vs4 := by
              intro t u hu
              obtain ⟨ad, h1, h2⟩ := H6.out.2.2.2.2.1 t u hu
              injection h1 with h1
              subst h1
              exact ⟨_, rfl, hg8.cell h2 (by rw [add_block]; exact hne4)⟩
            have hrows48 := H6.out.2.2.2.2.2.grown H6.out.2.1 (Nat.zero_le _) hg8
            have hsep8 : ∀ ad, A8 = some ad → ad.block ≠ g4 := by
              intro ad had
              rcases hst8 ad (q + 1) k8 (by rw [had]) with ⟨n0, k0, h⟩ | h
              · injection h with h; exact hB ad h
              · omega
            have H8 := Lib.hid (And.intro hown8 (And.intro hrows8 (And.intro (H6.out.2.2.2.1.trans hbl8) (And.intro hat8 (And.intro hrows48 hsep8)))))
            clear hown8 hrows8 hbl8 hat8 hrows48 hsep8 hst8 hg8 hne4 hB
            go_wp2_with fail
            go_roundw
            case rel => exact ⟨j + 1, A8, q + 1, k8, _, by omega, by go_num, by go_num, by rw [HS.out.2.2.2.2.2.2.2.2.2]; omega, H8.out.1, H8.out.2.1, H8.out.2.2.1, H8.out.2.2.2.1, H8.out.2.2.2.2.1, H8.out.2.2.2.2.2, HNZ5.out.snoc⟩
            case measure => simp [intOf]; omega
          · obtain rfl : j = ql := by omega
            have hLT : L.take j = L := List.take_of_length_le (by rw [← H4.out.2.2.2.2.2.2]; exact Nat.le_refl _)
            rw [hLT, ← divsTo_succ] at hrows
            have HS := Lib.hid (And.intro hown (And.intro hrows (And.intro hbl (show q = (divsTo L (i + 1)).length by rw [hq, divsTo_succ, List.length_append, List.length_map, ← H4.out.2.2.2.2.2.2]))))
            clear hown hrows hbl hat hrows4 hsep hq hLT
            go_wp2_with fail
            go_roundw
            case rel => exact ⟨i + 1, B, q, bc, vs, by omega, by go_num, rfl, HS.out.2.2.2, HS.out.1, HS.out.2.1, HS.out.2.2.1, HNZ5.out⟩
            case measure => simp [intOf]; omega
      · obtain rfl : i = n := by omega
        go_wp2_with fail
        go_ret
        have hh := HR.out.2.2.2
        subst hh
        exact ⟨B, bc, vs, rfl, HR.out.1, HR.out.2.1, HNZ.out, HR.out.2.2.1⟩

/- Contract: Better of the reference (package corrodyref01). -/

/-- What Better of the reference leaves, and that of the program: the first better division of the list. -/
def BetPost (o : Option (List Int)) (w : World) (e : Ending) (w' : World) : Prop :=
  (o = none ∧ e = .returned (.tuple #[.slice none 0 0, .int .i64 4]) ∧ Below w.heap.size w w') ∨
  ∃ a A c, o = some a ∧ e = .returned (.tuple #[.slice A a.length c, .int .i64 0]) ∧ a.length ≤ 7 ∧ Ints w' A a ∧ Below w.heap.size w w'

def better (V : List (List Int)) (d : List Int) (a : List Int) : Bool := bet (ownV V a V.length) (ownV V d V.length)

theorem find_take {α : Type} {p : α → Bool} {L : List α} {k : Nat} {x : α} (h : L[k]? = some x) (hn : (L.take k).find? p = none) (hx : p x = true) : L.find? p = some x := by
  have hk : k < L.length := (List.getElem?_eq_some_iff.1 h).1
  rw [← List.take_append_drop k L, List.find?_append, hn, List.drop_eq_getElem_cons hk]
  have : L[k] = x := by have := List.getElem?_eq_getElem hk; rw [h] at this; injection this with this; exact this.symm
  rw [this]
  simp [hx]
theorem find_on {α : Type} {p : α → Bool} {L : List α} {k : Nat} {x : α} (h : L[k]? = some x) (hn : (L.take k).find? p = none) (hx : p x = false) : (L.take (k + 1)).find? p = none := by
  rw [List.take_add_one, h, List.find?_append, hn]; simp [hx]

set_option maxRecDepth 100000 in
set_option maxHeartbeats 1600000 in
theorem r1better_any (A D : Option Addr) (n cap capd m : Nat) (V : List (List Int)) (d : List Int) (w : World) (hl : V.length = n) (hn : 1 ≤ n ∧ n ≤ 4) (hm : m = (rowV V 0).length) (hm7 : 1 ≤ m ∧ m ≤ 7) (hld : d.length = m)
    (hr : ∀ i, i < n → (rowV V i).length = m ∧ ∀ x ∈ rowV V i, 0 ≤ x ∧ x ≤ 100) (hV : Mat w A V) (hD : Ints w D d) :
    Calls Try.prog 23 #[.slice A n cap, .slice D m capd] w (BetPost ((divs n m).find? (better V d)) w) := by
  obtain ⟨ad, rfl, had, hc⟩ := hV.some_ (by omega)
  obtain ⟨A0, c0, g1, g2, g3, g4⟩ := hc 0 _ (List.getElem?_eq_getElem (by omega))
  have e : (V[0]'(by omega)).length = m := by rw [hm, rowV_get (List.getElem?_eq_getElem (by omega))]
  rw [e] at g1 g2
  have g1' : w.cell? ad = some (.slice A0 m c0) := g1
  have l0 : (0 : Int) < (n : Int) := by omega
  have hps := divs_small hn.2 hm7.2
  rw [← divs_length] at hps
  obtain ⟨L, hL⟩ : ∃ L, L = divs n m := ⟨_, rfl⟩
  have hmem : ∀ l ∈ L, l.length = m := fun l h => divs_mem (by rw [← hL]; exact h)
  rw [← hL] at hps ⊢
  have H := Lib.hid (And.intro hl (And.intro hld (And.intro hr (And.intro hV (And.intro hD (And.intro hL hmem))))))
  clear hl hm hld hr hV hD hc g1 g4 e hL hmem
  go_enter Try.func23, Try.ntmps23
  go_wp2_with fail
  refine (divisions_any n hn m _ hm7.2).mono ?_
  rw [← H.out.2.2.2.2.2.1]
  rintro e w4 ⟨A4, c4, vs4, rfl, hown4, hrows4, _, hbl4⟩
  obtain ⟨ql, hql⟩ : ∃ ql, ql = L.length := ⟨_, rfl⟩
  have hat4 : At w4 A4 vs4 := At.of_own hown4
  rw [← hql] at hps ⊢
  have H4 := Lib.hid (And.intro hat4 (And.intro hrows4 (And.intro hbl4 hql)))
  have hw4 := hbl4.size
  clear hown4 hrows4 hbl4 hat4 hql
  go_wp2_with fail
  go_loopw [16] (fun jv wr => ∃ j : Nat, j ≤ ql ∧ jv = .int .i64 j ∧ (L.take j).find? (better V d) = none ∧ Below w4.heap.size w4 wr) (fun jv _ => ql - (intOf jv).toNat)
  case atStart => exact ⟨0, Nat.zero_le _, rfl, by simp, Below.refl _ _⟩
  case round =>
    obtain ⟨j, hj, rfl, hf, hbl⟩ := hrel
    obtain ⟨wp, rfl⟩ : ∃ wp : World, wp = wr := ⟨_, rfl⟩
    have HR := Lib.hid (And.intro hf hbl)
    have hwp := hbl.size
    clear hf hbl
    by_cases hlj : j < ql
    · obtain ⟨os, hos⟩ : ∃ os, L[j]? = some os := ⟨_, List.getElem?_eq_getElem (by rw [← H4.out.2.2.2]; exact hlj)⟩
      have hosl := H.out.2.2.2.2.2.2 os (List.mem_of_getElem? hos)
      obtain ⟨v, hv, A', c', rfl, hc1, hc2, hI, _⟩ := H4.out.2.1.2 j os hos
      rw [hosl] at hv hc1
      obtain ⟨ad4, rfl, hcell⟩ := H4.out.1 j _ hv
      have hcell2 := (HR.out.2.cell (lt_of_cell hcell)).trans hcell
      have l1 : (j : Int) < (ql : Int) := by omega
      have HS := Lib.hid (And.intro (hI.below HR.out.2) (And.intro hos (And.intro hosl (H4.out.2.2.1.trans (HR.out.2.mono hw4)))))
      have hbet : better V d os = bet (ownV V os n) (ownV V d n) := by unfold better; rw [H.out.1]
      have HBE := Lib.hid hbet
      clear hI hos hosl hv hcell hbet
      go_wp2_with fail
      refine (isbetter_any (some ad) n cap A' D m c' capd V os d _ H.out.1 (by omega) HS.out.2.2.1 H.out.2.1 (by omega) H.out.2.2.1 (H.out.2.2.2.1.below HS.out.2.2.2) HS.out.1 (H.out.2.2.2.2.1.below HS.out.2.2.2)).mono ?_
      rw [← HBE.out]
      rintro e w6 ⟨rfl, hb6⟩
      have hw6 := hb6.size
      cases hb : better V d os
      · have H6 := Lib.hid (And.intro (find_on HS.out.2.1 HR.out.1 hb) (HR.out.2.trans (hb6.mono hwp)))
        clear hb6 hb
        go_wp2_with fail
        go_roundw
        case rel => exact ⟨j + 1, by omega, by go_num, H6.out.1, H6.out.2⟩
        case measure => simp [intOf]; omega
      · have H6 := Lib.hid (And.intro (find_take HS.out.2.1 HR.out.1 hb) (And.intro (HS.out.1.below hb6) (HS.out.2.2.2.trans (hb6.mono (by omega)))))
        clear hb6 hb
        go_wp2_with fail
        go_ret2
        exact .inr ⟨os, A', c', H6.out.1, by rw [HS.out.2.2.1]; rfl, by rw [HS.out.2.2.1]; exact hm7.2, H6.out.2.1, H6.out.2.2⟩
    · have HN : Hid (L.find? (better V d) = none) := Lib.hid (by have h := HR.out.1; rwa [List.take_of_length_le (by rw [← H4.out.2.2.2]; omega)] at h)
      have HB := Lib.hid (H4.out.2.2.1.trans (HR.out.2.mono hw4))
      go_wp2_with fail
      go_ret2
      exact .inl ⟨HN.out, rfl, HB.out⟩

/- Contract: Better of package split. -/

def binv (G : Nat) (w0 : World) (n m : Nat) (V : List (List Int)) (d : List Int) (wv : Value) (t : Nat) (w : World) : Prop :=
  Below G w0 w ∧ Blk w G 23 #[wv] ∧ Blk w (G + 1) 64 #[.slice none 0 0] ∧ ∀ s, s < t → better V d (dz n m s) = false
def bdone (G : Nat) (w0 : World) (n m : Nat) (V : List (List Int)) (d : List Int) (w : World) : Prop :=
  ∃ t A c, t < n ^ m ∧ (∀ s, s < t → better V d (dz n m s) = false) ∧ better V d (dz n m t) = true ∧ Blk w (G + 1) 64 #[.slice (some A) m c] ∧ m ≤ c ∧ c ≤ 9223372036854775807 ∧ Ints w (some A) (dz n m t) ∧ Below G w0 w
theorem binv_set {G : Nat} {w0 : World} {n m : Nat} {V : List (List Int)} {d : List Int} {wv : Value} {t : Nat} {w : World} (h : binv G w0 n m V d wv t w) (i : Nat) (v : Value) : binv G w0 n m V d wv t (w.setCell ⟨G + 2, i, none⟩ v) :=
  ⟨h.1.setCell (by show G ≤ G + 2; omega) _, h.2.1.far (by show G ≠ G + 2; omega) _, h.2.2.1.far (by show G + 1 ≠ G + 2; omega) _, h.2.2.2⟩

set_option maxRecDepth 100000 in
set_option maxHeartbeats 1600000 in
theorem sbetter1_any (G Bv n m cap cw : Nat) (A Aw : Option Addr) (V : List (List Int)) (d : List Int) (w0 : World) (t : Nat) (w : World) (ht : t < n ^ m)
    (hl : V.length = n) (hn : 1 ≤ n ∧ n ≤ 4) (hm7 : 1 ≤ m ∧ m ≤ 7) (hr : ∀ i, i < n → (rowV V i).length = m ∧ ∀ x ∈ rowV V i, 0 ≤ x ∧ x ≤ 100)
    (hG : w0.heap.size = G) (hv : w0.cell? ⟨Bv, 0, none⟩ = some (.slice A n cap)) (hV : Mat w0 A V) (hW : Ints w0 Aw (ownV V d n))
    (hinv : binv G w0 n m V d (.slice Aw n cw) t w) (hD : Blk w (G + 2) 3 (arr (dz n m t))) :
    Calls Try.prog 52 #[.slice (some ⟨G + 2, 0, none⟩) m m, .pointer (some ⟨Bv, 0, none⟩), .pointer (some ⟨G, 0, none⟩), .pointer (some ⟨G + 1, 0, none⟩)] w (EachPost (binv G w0 n m V d (.slice Aw n cw)) (bdone G w0 n m V d) n m t (G + 2)) := by
  have qT : ∀ (w : World) (a : Option Addr) (n c n' c' : Nat), (binOp .eql 64 (.slice a n c) (.slice none n' c')).run Try.prog w = .ok (.bool a.isNone) w := fun w a n c n' c' => Lib.run_eql_slice_nil w _ _ a n c n' c' Try.underlying64
  obtain ⟨hbl, h7, h8, hno⟩ := hinv
  obtain ⟨x, hx⟩ : ∃ x, x = ownV V (dz n m t) n := ⟨_, rfl⟩
  obtain ⟨y, hy⟩ : ∃ y, y = ownV V d n := ⟨_, rfl⟩
  have hbet : better V d (dz n m t) = (!lessAny x y && !decide (x = y)) := by
    unfold better
    rw [hl, ← hx, ← hy]
    exact bet_eq (by rw [hx, hy, ownV_length, ownV_length])
  have hvw := (hbl.cell (by rw [← hG]; exact lt_of_cell hv)).trans hv
  rw [← hy] at hW
  have hb0 : Below w0.heap.size w0 w := by rw [hG]; exact hbl
  have hDl := hD.lt
  have H := Lib.hid (And.intro hl (And.intro hr (And.intro (hV.below hb0) (And.intro (hW.below hb0) (And.intro hbl (And.intro h7 (And.intro h8 (And.intro hno (And.intro hD hbet)))))))))
  have HX := Lib.hid (And.intro hx (And.intro (show x.length = n by rw [hx, ownV_length]) (show y.length = n by rw [hy, ownV_length])))
  clear hl hr hv hV hW hbl h7 h8 hno hD hx hy hbet hb0
  go_enter Try.func52, Try.ntmps52
  go_wp2_with fail
  refine (own_any A n cap (some ⟨G + 2, 0, none⟩) m m V (dz n m t) _ H.out.1 (by omega) (dz_length _ _ _) (by omega) H.out.2.1 H.out.2.2.1 (blk_ints H.out.2.2.2.2.2.2.2.2.1)).mono ?_
  rintro e w1 ⟨A1, c1, rfl, hown1, hb1⟩
  have hI1 : Ints w1 A1 x := by rw [HX.out.1]; exact At.of_own hown1
  have hw1 := hb1.size
  have h71 := H.out.2.2.2.2.2.1.below hb1 (by omega)
  have h81 := H.out.2.2.2.2.2.2.1.below hb1 (by omega)
  have H1 := Lib.hid (And.intro hI1 (And.intro (H.out.2.2.2.1.below hb1) (And.intro (H.out.2.2.2.2.1.trans (hb1.mono (by omega))) (And.intro h71 (And.intro h81 (H.out.2.2.2.2.2.2.2.2.1.below hb1 (by omega)))))))
  obtain ⟨p7, q7⟩ := h71.at1
  obtain ⟨p8, q8⟩ := h81.at1
  clear hown1 hI1 hb1 h71 h81
  go_wp2_with fail
  go_loopw [7, 14] (fun bv iv wr => ∃ k nd : Nat, k ≤ n ∧ iv = .int .i64 k ∧ bv = .bool (lessAny (x.take k) (y.take k)) ∧ wr = w1.drewN nd) (fun _ iv _ => n - (intOf iv).toNat)
  case atStart => exact ⟨0, 0, Nat.zero_le _, rfl, rfl, rfl⟩
  case round =>
    obtain ⟨k, nd, hk, rfl, rfl, rfl⟩ := hrel
    have p7' : (w1.drewN nd).cell? ⟨G, 0, none⟩ = some (.slice Aw n cw) := p7
    by_cases hlt : k < n
    · obtain ⟨a, ha⟩ : ∃ a, x[k]? = some a := ⟨_, List.getElem?_eq_getElem (by have := HX.out.2.1; omega)⟩
      obtain ⟨b, hb⟩ : ∃ b, y[k]? = some b := ⟨_, List.getElem?_eq_getElem (by have := HX.out.2.2; omega)⟩
      obtain ⟨ax, rfl, hcx⟩ := H1.out.1 k (.int .i64 a) (by rw [List.getElem?_map, ha]; rfl)
      obtain ⟨ay, rfl, hcy⟩ := H1.out.2.1 k (.int .i64 b) (by rw [List.getElem?_map, hb]; rfl)
      have HT := Lib.hid (lessAny_take ha hb)
      have l1 : (k : Int) < (n : Int) := by omega
      clear ha hb
      generalize lessAny (x.take k) (y.take k) = le at *
      cases le
      · go_wp2_with fail
        go_quiet (fail)
        go_wp2_with fail
        go_roundw
        case rel => exact ⟨k + 1, _, by omega, by go_num, by rw [HT.out]; rfl, rfl⟩
        case measure => simp [intOf]; omega
      · go_wp2_with fail
        go_quiet (fail)
        go_wp2_with fail
        go_roundw
        case rel => exact ⟨k + 1, _, by omega, by go_num, by rw [HT.out]; rfl, rfl⟩
        case measure => simp [intOf]; omega
    · obtain rfl : k = n := by omega
      have hT : x.take k = x := List.take_of_length_le (by have := HX.out.2.1; omega)
      have hT2 : y.take k = y := List.take_of_length_le (by have := HX.out.2.2; omega)
      rw [hT, hT2]
      have HBE := Lib.hid H.out.2.2.2.2.2.2.2.2.2
      clear hT hT2
      have stay : ∀ nd', better V d (dz k m t) = false → binv G w0 k m V d (.slice Aw k cw) (t + 1) (w1.drewN nd') ∧ Blk (w1.drewN nd') (G + 2) 3 (arr (dz k m t)) := fun nd' hb =>
        ⟨⟨below_drewN H1.out.2.2.1 _, H1.out.2.2.2.1, H1.out.2.2.2.2.1, fun s hs => by
          rcases Nat.lt_succ_iff_lt_or_eq.1 hs with h | h
          · exact H.out.2.2.2.2.2.2.2.1 s h
          · rw [h]; exact hb⟩, H1.out.2.2.2.2.2⟩
      have STAY := Lib.hid stay
      clear stay
      have p8' : ∀ nd, (w1.drewN nd).cell? ⟨G + 1, 0, none⟩ = some (.slice none 0 0) := fun _ => p8
      generalize lessAny x y = le at *
      cases le
      · go_wp2_with fail
        refine (equal_any A1 Aw k k c1 cw x y (w1.drewN nd) HX.out.2.1 HX.out.2.2 (by omega) H1.out.1 H1.out.2.1).mono ?_
        rintro e w2 ⟨rfl, ne, rfl⟩
        have p8'' : ((w1.drewN nd).drewN ne).cell? ⟨G + 1, 0, none⟩ = some (.slice none 0 0) := p8
        have q8'' : ((w1.drewN nd).drewN ne).frozen? ⟨G + 1, 0, none⟩ = false := q8
        have HBE2 : Hid (better V d (dz k m t) = !eqB x y) := Lib.hid (by rw [HBE.out]; rfl)
        generalize eqB x y = ee at *
        cases ee
        · go_wp2_with fail
          refine (cloneD_any (some ⟨G + 2, 0, none⟩) m m (dz k m t) (w1.drewN (nd + ne)) (by rw [dz_length]) (by omega) (blk_ints (Blk.drewN H1.out.2.2.2.2.2 _))).mono ?_
          rintro e w3 ⟨A2, c2, rfl, hown2, hb2⟩
          have hI2 : Ints w3 A2 (dz k m t) := At.of_own hown2
          obtain ⟨g, rfl, hg, _⟩ := own_some hown2 (by omega)
          obtain ⟨_, _, he2, hc21, hc22, _⟩ := own_form hown2
          injection he2 with e4 _ e5
          subst e4
          subst e5
          have hg' : G + 2 < g := by have : w1.heap.size ≤ g := hg; omega
          have hb2' : Below w1.heap.size w1 w3 := (below_drewN (Below.refl w1.heap.size w1) (nd + ne)).trans hb2
          have g8 := H1.out.2.2.2.2.1.below hb2' (by omega)
          obtain ⟨r8, s8⟩ := g8.at1
          have H3 := Lib.hid (And.intro hI2 (And.intro hb2' g8))
          clear hown2 hI2 hb2 hb2' g8
          go_wp2_with fail
          go_ret
          refine .inr ⟨rfl, t, ⟨g, 0, none⟩, c2, ht, H.out.2.2.2.2.2.2.2.1, by rw [HBE2.out]; rfl, H3.out.2.2.set_ 0 _, hc21, hc22, ?_, ?_⟩
          · exact ints_far H3.out.1 (fun ad ha => by injection ha with ha; subst ha; show g ≠ G + 1; omega) _
          · exact (H1.out.2.2.1.trans (H3.out.2.1.mono (by omega))).setCell (by show G ≤ G + 1; omega) _
        · go_wp2_with fail
          go_ret
          refine .inl ⟨rfl, ?_⟩
          exact STAY.out (nd + ne) (by rw [HBE2.out]; rfl)
      · go_wp2_with fail
        go_ret
        exact .inl ⟨rfl, STAY.out _ (by rw [HBE.out]; rfl)⟩

theorem ent_better1 : Ent 52 := ent_of Try.func52 (by kernel_rfl) (by kernel_rfl)

theorem find_first {n m t : Nat} (hn : 0 < n) {p : List Int → Bool} (ht : t < n ^ m) (hno : ∀ s, s < t → p (dz n m s) = false) (hp : p (dz n m t) = true) : (divs n m).find? p = some (dz n m t) := by
  rw [divs_eq hn]
  refine find_take (k := t) (by simp [ht]) ?_ hp
  rw [List.find?_eq_none]
  intro x hx
  rw [← List.map_take, List.take_range] at hx
  obtain ⟨s, hs, rfl⟩ := List.mem_map.1 hx
  rw [hno s (by have := List.mem_range.1 hs; omega)]; simp
theorem find_not {n m : Nat} (hn : 0 < n) {p : List Int → Bool} (hno : ∀ s, s < n ^ m → p (dz n m s) = false) : (divs n m).find? p = none := by
  rw [divs_eq hn, List.find?_eq_none]
  intro x hx
  obtain ⟨s, hs, rfl⟩ := List.mem_map.1 hx
  rw [hno s (List.mem_range.1 hs)]; simp

/-- What Better of package split leaves. -/
def SBetPost (V : List (List Int)) (d : List Int) (w : World) (e : Ending) (w' : World) : Prop :=
  ((valV V && divV V d) = false ∧ e = .returned (.tuple #[.slice none 0 0, .int .i64 2]) ∧ Below w.heap.size w w') ∨
  ((valV V && divV V d) = true ∧ BetPost ((divs V.length (rowV V 0).length).find? (better V d)) w e w')

set_option maxRecDepth 100000 in
set_option maxHeartbeats 1600000 in
theorem sbetter_any (A D : Option Addr) (n cap nd capd : Nat) (V : List (List Int)) (d : List Int) (w : World) (hl : V.length = n) (hn : n ≤ 9223372036854775807) (hV : Mat w A V) (hld : d.length = nd) (hnd : nd ≤ 9223372036854775807) (hD : Ints w D d) :
    Calls Try.prog 18 #[.slice A n cap, .slice D nd capd] w (SBetPost V d w) := by
  have qT : ∀ (w : World) (a : Option Addr) (n c n' c' : Nat), (binOp .eql 64 (.slice a n c) (.slice none n' c')).run Try.prog w = .ok (.bool a.isNone) w := fun w a n c n' c' => Lib.run_eql_slice_nil w _ _ a n c n' c' Try.underlying64
  have hp : ∀ o, Blk (w.alloc (.cells #[o] 61)) w.heap.size 61 #[o] := fun o => Blk.new w 61 #[o] rfl
  have hz1 : ∀ o, (w.alloc o).heap.size = w.heap.size + 1 := fun o => by simp
  have hbw : ∀ o, Below w.heap.size w (w.alloc o) := fun o => (Below.refl _ _).alloc (Nat.le_refl _) _
  have H := Lib.hid (And.intro hl (And.intro hV (And.intro hld (And.intro hD (And.intro hp hbw)))))
  clear hl hV hld hD hp hz1 hbw
  go_enter Try.func18, Try.ntmps18
  go_wp2_with fail
  refine (svalid_any A n cap V _ H.out.1 hn (H.out.2.1.below (H.out.2.2.2.2.2 _))).mono ?_
  rintro e w1 ⟨rfl, hb1⟩
  have hBlk : Blk w1 w.heap.size 61 #[.slice A n cap] := (H.out.2.2.2.2.1 _).below hb1 (by go_size)
  have hbl1 : Below w.heap.size w w1 := (H.out.2.2.2.2.2 _).trans (hb1.mono (by go_size))
  have hw1 := hb1.size
  have c1 := hBlk.at1.1
  have H1 := Lib.hid (And.intro hBlk hbl1)
  clear hb1 hBlk hbl1
  cases hv : valV V
  · have HV := Lib.hid hv
    clear hv
    go_wp2_with fail
    go_ret2
    exact .inl ⟨by rw [HV.out]; rfl, rfl, H1.out.2⟩
  · have hv1 := valV_iff.1 hv
    have hn4 : 1 ≤ n ∧ n ≤ 4 := by rw [← H.out.1]; exact hv1.1
    obtain ⟨m, hm⟩ : ∃ m, m = (rowV V 0).length := ⟨_, rfl⟩
    have hm7 : 1 ≤ m ∧ m ≤ 7 := by rw [hm]; exact hv1.2.1
    have HV := Lib.hid (And.intro hv (And.intro hm (valV_rows hv hm)))
    clear hv hv1 hm
    go_wp2_with fail
    refine (sdivision_any A D n cap nd capd m V d w1 H.out.1 (by omega) HV.out.2.1 (by omega) (H.out.2.1.below H1.out.2) H.out.2.2.1 hnd (H.out.2.2.2.1.below H1.out.2)).mono ?_
    rintro e w2 ⟨rfl, hb2⟩
    have hw2 := hb2.size
    have hB2 := H1.out.1.below hb2 H1.out.1.lt
    have c2 := hB2.at1.1
    have H2 := Lib.hid (And.intro hB2 (H1.out.2.trans (hb2.mono (by have := H1.out.2.size; omega))))
    clear hb2 hB2
    cases hd : divV V d
    · have HD := Lib.hid hd
      clear hd
      go_wp2_with fail
      go_ret2
      exact .inl ⟨by rw [HD.out, Bool.and_false], rfl, H2.out.2⟩
    · have hdm : nd = m := by
        unfold divV at hd
        simp only [Bool.and_eq_true, decide_eq_true_eq] at hd
        rw [← H.out.2.2.1, hd.1, ← HV.out.2.1]
      subst hdm
      have HD := Lib.hid hd
      clear hd
      go_wp2_with fail
      refine (own_any A n cap D nd capd V d w2 H.out.1 (by omega) H.out.2.2.1 (by omega) (by rw [← H.out.1]; exact HV.out.2.2) (H.out.2.1.below H2.out.2) (H.out.2.2.2.1.below H2.out.2)).mono ?_
      rintro e w3 ⟨Aw, cw, rfl, hown3, hb3⟩
      have hI3 : Ints w3 Aw (ownV V d n) := At.of_own hown3
      have hw3 := hb3.size
      have hB3 := H2.out.1.below hb3 H2.out.1.lt
      have c3 := hB3.at1.1
      have c5 : ∀ o1 o2, ((w3.alloc o1).alloc o2).cell? ⟨w.heap.size, 0, none⟩ = some (.slice A n cap) := fun o1 o2 => ((hB3.alloc o1).alloc o2).at1.1
      have h03 : Below w.heap.size w w3 := H2.out.2.trans (hb3.mono (by have := H2.out.2.size; omega))
      have b7 : ∀ o1 o2, Blk ((w3.alloc (.cells #[o1] 23)).alloc (.cells #[o2] 64)) w3.heap.size 23 #[o1] := fun o1 o2 => (Blk.new _ _ _ rfl).alloc _
      have b8 : ∀ o1 o2, Blk ((w3.alloc (.cells #[o1] 23)).alloc (.cells #[o2] 64)) (w3.heap.size + 1) 64 #[o2] := fun o1 o2 => Blk.new _ _ _ (by simp)
      have b5 : ∀ o1 o2, Below w3.heap.size w3 ((w3.alloc (.cells #[o1] 23)).alloc (.cells #[o2] 64)) := fun o1 o2 => ((Below.refl _ _).alloc (Nat.le_refl _) _).alloc (by go_size) _
      have hz : ∀ o1 o2 : Obj, ((w3.alloc o1).alloc o2).heap.size = w3.heap.size + 2 := fun o1 o2 => by simp
      have H3 := Lib.hid (And.intro hI3 (And.intro hB3 (And.intro h03 (And.intro b7 (And.intro b8 (And.intro b5 hz))))))
      clear hown3 hI3 hb3 hB3 h03 b7 b8 b5 hz
      go_wp2_with fail
      refine (each_any 52 #[.pointer (some ⟨w.heap.size, 0, none⟩), .pointer (some ⟨w3.heap.size, 0, none⟩), .pointer (some ⟨w3.heap.size + 1, 0, none⟩)] A n cap nd V _ (binv w3.heap.size w3 n nd V d (.slice Aw n cw)) (bdone w3.heap.size w3 n nd V d) ent_better1 H.out.1 hn4 HV.out.2.1 hm7 ((H.out.2.1.below H3.out.2.2.1).below (H3.out.2.2.2.2.2.1 _ _)) ?hst ?hset ?hcall).mono ?_
      case hst =>
        exact ⟨(H3.out.2.2.2.2.2.1 _ _).alloc (by go_size) _, (H3.out.2.2.2.1 _ _).alloc _, (H3.out.2.2.2.2.1 _ _).alloc _, fun s hs => by omega⟩
      case hset =>
        intro t w' i v h
        rw [H3.out.2.2.2.2.2.2]
        exact binv_set h i v
      case hcall =>
        intro t w' ht hinv hB
        rw [H3.out.2.2.2.2.2.2] at hB ⊢
        exact sbetter1_any w3.heap.size w.heap.size n nd cap cw A Aw V d w3 t w' ht H.out.1 hn4 hm7 (by rw [← H.out.1]; exact HV.out.2.2) rfl c3 (H.out.2.1.below H3.out.2.2.1) H3.out.1 hinv hB
      rintro e w5 ⟨rfl, hi | hi⟩
      · obtain ⟨g1, g2, g3, g4⟩ := hi
        obtain ⟨p8, q8⟩ := g3.at1
        have HF := Lib.hid (And.intro (find_not (by omega) g4) (H3.out.2.2.1.trans (g1.mono H3.out.2.2.1.size)))
        clear g1 g2 g3 g4
        go_wp2_with fail
        go_ret2
        refine .inr ⟨by rw [HV.out.1, HD.out]; rfl, .inl ⟨?_, rfl, HF.out.2⟩⟩
        rw [H.out.1, ← HV.out.2.1]; exact HF.out.1
      · obtain ⟨t, A8, c8, g1, g2, g3, g4, g5, g6, g7, g8⟩ := hi
        obtain ⟨p8, q8⟩ := g4.at1
        have HF := Lib.hid (And.intro (find_first (by omega) g1 g2 g3) (And.intro g7 (H3.out.2.2.1.trans (g8.mono H3.out.2.2.1.size))))
        clear g1 g2 g3 g4 g7 g8
        go_wp2_with fail
        go_ret2
        refine .inr ⟨by rw [HV.out.1, HD.out]; rfl, .inr ⟨dz n nd t, some A8, c8, ?_, by rw [dz_length]; rfl, by rw [dz_length]; exact hm7.2, HF.out.2.1, HF.out.2.2⟩⟩
        rw [H.out.1, ← HV.out.2.1]; exact HF.out.1

/- Contracts: Valid and Division of the reference, divided of package corrodylaw01. -/

set_option maxHeartbeats 800000 in
theorem worths_any (A : Option Addr) (n cap : Nat) (r : List Int) (w : World) (hl : r.length = n) (hn : n ≤ 9223372036854775807) (hI : Ints w A r) :
    Calls Try.prog 59 #[.slice A n cap] w fun e w' => e = .returned (.bool (r.all in100)) ∧ w = w' := by
  have H := Lib.hid (And.intro hl hI)
  clear hl hI
  go_enter Try.func59, Try.ntmps59
  go_wp2_with fail
  go_loop [7] (fun i => ∃ k : Nat, k ≤ n ∧ i = .int .i64 k ∧ (r.take k).all in100 = true) (fun i => n - (intOf i).toNat)
  case atStart => exact ⟨0, Nat.zero_le _, rfl, by simp⟩
  case round =>
    obtain ⟨k, hk, rfl, ha⟩ := hrel
    have HA := Lib.hid ha
    clear ha
    by_cases hlt : k < n
    · obtain ⟨x, hx⟩ : ∃ x, r[k]? = some x := ⟨_, List.getElem?_eq_getElem (by have := H.out.1; omega)⟩
      obtain ⟨ad, rfl, hc⟩ := H.out.2 k (.int .i64 x) (by rw [List.getElem?_map, hx]; rfl)
      have HX := Lib.hid hx
      have l1 : (k : Int) < (n : Int) := by omega
      clear hx
      have hbad : in100 x = false → Hid (false = r.all in100) := fun h => Lib.hid (by
        symm
        rw [List.all_eq_false]
        exact ⟨x, List.mem_of_getElem? HX.out, by simp [h]⟩)
      by_cases h0 : x < 0
      · have HB := hbad (by simp [in100]; omega)
        clear hbad
        go_wp2_with fail
        go_ret
        exact ⟨ret_bool HB.out, rfl⟩
      · by_cases h1 : 100 < x
        · have HB := hbad (by simp [in100]; omega)
          clear hbad
          go_wp2_with fail
          go_ret
          exact ⟨ret_bool HB.out, rfl⟩
        · have HN : Hid ((r.take (k + 1)).all in100 = true) := Lib.hid (by rw [List.take_add_one, HX.out, List.all_append, HA.out]; simp [in100]; omega)
          clear hbad
          go_wp2_with fail
          go_round
          case rel => exact ⟨k + 1, by omega, by go_num, HN.out⟩
          case measure => simp [intOf]; omega
    · have HN : Hid (true = r.all in100) := Lib.hid (by have h := HA.out; rw [List.take_of_length_le (by rw [H.out.1]; omega)] at h; exact h.symm)
      go_wp2_with fail
      go_ret
      exact ⟨ret_bool HN.out, rfl⟩

/-- A row of m values. -/
def okR (m : Nat) (r : List Int) : Bool := decide (r.length = m) && decide (1 ≤ r.length) && decide (r.length ≤ 7) && r.all in100
theorem valV_okR {V : List (List Int)} {m : Nat} (h1 : 1 ≤ V.length) (h4 : V.length ≤ 4) (hm : m = (rowV V 0).length) : valV V = V.all (okR m) := by
  have h0 : rowV V 0 ∈ V := by
    rw [rowV_get (List.getElem?_eq_getElem (by omega : 0 < V.length))]; exact List.getElem_mem _
  rw [Bool.eq_iff_iff, valV_iff, List.all_eq_true, ← hm]
  simp only [okR, Bool.and_eq_true, decide_eq_true_eq, List.all_eq_true, in100]
  constructor
  · intro ⟨_, h2, h3⟩ r hr
    have := h3 r hr
    exact ⟨⟨⟨this.1, by omega⟩, by omega⟩, this.2⟩
  · intro h
    have hh := h _ h0
    refine ⟨⟨h1, h4⟩, by omega, fun r hr => ⟨(h r hr).1.1.1, (h r hr).2⟩⟩

set_option maxRecDepth 100000 in
set_option maxHeartbeats 1600000 in
theorem r1valid_any (A : Option Addr) (n cap : Nat) (V : List (List Int)) (w : World) (hl : V.length = n) (hn : n ≤ 9223372036854775807) (hV : Mat w A V) :
    Calls Try.prog 30 #[.slice A n cap] w fun e w' => e = .returned (.bool (valV V)) ∧ w = w' := by
  obtain ⟨b, hb⟩ : ∃ b, b = valV V := ⟨_, rfl⟩
  rw [← hb]
  by_cases h1 : n < 1
  · have HF : Hid (false = b) := Lib.hid (by rw [hb]; unfold valV; rw [decide_eq_false (p := 1 ≤ V.length) (by omega)]; rfl)
    clear hb hl hV
    go_enter Try.func30, Try.ntmps30
    go_wp2_with fail
    go_ret
    exact ⟨ret_bool HF.out, rfl⟩
  · by_cases h2 : 4 < n
    · have HF : Hid (false = b) := Lib.hid (by rw [hb]; unfold valV; rw [decide_eq_false (p := V.length ≤ 4) (by omega)]; simp)
      clear hb hl hV
      go_enter Try.func30, Try.ntmps30
      go_wp2_with fail
      go_ret
      exact ⟨ret_bool HF.out, rfl⟩
    · obtain ⟨m, hm⟩ : ∃ m, m = (rowV V 0).length := ⟨_, rfl⟩
      obtain ⟨ad, rfl, had, hc⟩ := hV.some_ (by omega)
      obtain ⟨A0, c0, g1, g2, g3, g4⟩ := hc 0 _ (List.getElem?_eq_getElem (by omega))
      have e : (V[0]'(by omega)).length = m := by rw [hm, rowV_get (List.getElem?_eq_getElem (by omega))]
      rw [e] at g1 g2
      have g1' : w.cell? ad = some (.slice A0 m c0) := g1
      have H := Lib.hid (And.intro (hb.trans (valV_okR (by omega) (by omega) hm)) (And.intro hl (And.intro hm hc)))
      clear hb hl hm hc g1 g4 e hV
      go_enter Try.func30, Try.ntmps30
      go_wp2_with fail
      go_loop [15] (fun i => ∃ k : Nat, k ≤ n ∧ i = .int .i64 k ∧ (V.take k).all (okR m) = true) (fun i => n - (intOf i).toNat)
      case atStart => exact ⟨0, Nat.zero_le _, rfl, by simp⟩
      case round =>
        obtain ⟨k, hk, rfl, ha⟩ := hrel
        have HA := Lib.hid ha
        clear ha
        by_cases hlt : k < n
        · obtain ⟨r, hr⟩ : ∃ r, V[k]? = some r := ⟨_, List.getElem?_eq_getElem (by have := H.out.2.1; omega)⟩
          obtain ⟨A', c, q1, q2, q3, q4⟩ := H.out.2.2.2 k r hr
          obtain ⟨rl, hrl⟩ : ∃ rl, rl = r.length := ⟨_, rfl⟩
          rw [← hrl] at q1 q2
          have HX := Lib.hid (And.intro hr (And.intro hrl q4))
          have l1 : (k : Int) < (n : Int) := by omega
          have l0 : (0 : Int) < (n : Int) := by omega
          clear hr hrl q4
          have hbad : okR m r = false → Hid (false = b) := fun h => Lib.hid (by
            rw [H.out.1]
            symm
            rw [List.all_eq_false]
            exact ⟨r, List.mem_of_getElem? HX.out.1, by simp [h]⟩)
          by_cases e1 : rl = m
          · subst e1
            by_cases e2 : rl < 1
            · have HB := hbad (by unfold okR; rw [← HX.out.2.1, decide_eq_false (p := 1 ≤ rl) (by omega)]; simp)
              clear hbad
              go_wp2_with fail
              go_ret
              exact ⟨ret_bool HB.out, rfl⟩
            · by_cases e3 : 7 < rl
              · have HB := hbad (by unfold okR; rw [← HX.out.2.1, decide_eq_false (p := rl ≤ 7) (by omega)]; simp)
                clear hbad
                go_wp2_with fail
                go_ret
                exact ⟨ret_bool HB.out, rfl⟩
              · go_wp2_with fail
                refine (worths_any A' rl c r _ HX.out.2.1.symm (by omega) HX.out.2.2).mono ?_
                rintro e w' ⟨rfl, rfl⟩
                cases hv : r.all in100
                · have HB := hbad (by unfold okR; rw [hv]; simp)
                  clear hbad hv
                  go_wp2_with fail
                  go_ret
                  exact ⟨ret_bool HB.out, rfl⟩
                · have HN : Hid ((V.take (k + 1)).all (okR rl) = true) := Lib.hid (by
                    rw [List.take_add_one, HX.out.1, List.all_append, HA.out]
                    simp only [Option.toList, List.all_cons, List.all_nil, okR, ← HX.out.2.1, hv]
                    rw [decide_eq_true trivial, decide_eq_true (p := 1 ≤ rl) (by omega), decide_eq_true (p := rl ≤ 7) (by omega)]; rfl)
                  clear hbad hv
                  go_wp2_with fail
                  go_round
                  case rel => exact ⟨k + 1, by omega, by go_num, HN.out⟩
                  case measure => simp [intOf]; omega
          · have HB := hbad (by unfold okR; rw [← HX.out.2.1, decide_eq_false e1]; rfl)
            have hne : ((rl : Int) != (m : Int)) = true := by rw [bne_iff_ne]; omega
            clear hbad e1
            go_wp2_with fail
            go_ret
            exact ⟨ret_bool HB.out, rfl⟩
        · have HN : Hid (true = b) := Lib.hid (by have h := HA.out; rw [List.take_of_length_le (by rw [H.out.2.1]; omega)] at h; rw [H.out.1]; exact h.symm)
          go_wp2_with fail
          go_ret
          exact ⟨ret_bool HN.out, rfl⟩

set_option maxHeartbeats 800000 in
theorem r1division_any (A D : Option Addr) (n cap nd capd m : Nat) (V : List (List Int)) (d : List Int) (w : World) (hlV : V.length = n) (hn : 1 ≤ n ∧ n ≤ 1000) (hm : m = (rowV V 0).length) (hm7 : m ≤ 1000) (hV : Mat w A V)
    (hl : d.length = nd) (hnd : nd ≤ 9223372036854775807) (hD : Ints w D d) :
    Calls Try.prog 41 #[.slice A n cap, .slice D nd capd] w fun e w' => e = .returned (.bool (divV V d)) ∧ w = w' := by
  obtain ⟨b, hb⟩ : ∃ b, b = divV V d := ⟨_, rfl⟩
  rw [← hb]
  obtain ⟨ad, rfl, had, hc⟩ := hV.some_ (by omega)
  obtain ⟨A0, c0, g1, g2, g3, g4⟩ := hc 0 _ (List.getElem?_eq_getElem (by omega))
  have e : (V[0]'(by omega)).length = m := by rw [hm, rowV_get (List.getElem?_eq_getElem (by omega))]
  rw [e] at g1 g2
  have g1' : w.cell? ad = some (.slice A0 m c0) := g1
  have l0 : (0 : Int) < (n : Int) := by omega
  have H := Lib.hid (And.intro hb (And.intro hlV (And.intro hm (And.intro hl hD))))
  clear hb hlV hm hc g1 g4 e hV hl hD
  go_enter Try.func41, Try.ntmps41
  go_wp2_with fail
  go_loop [9] (fun i => ∃ k : Nat, k ≤ nd ∧ i = .int .i64 k ∧ (d.take k).any (badD n) = false) (fun i => nd - (intOf i).toNat)
  case atStart => exact ⟨0, Nat.zero_le _, rfl, by simp⟩
  case round =>
    obtain ⟨k, hk, rfl, ha⟩ := hrel
    have HA := Lib.hid ha
    clear ha
    by_cases hlt : k < nd
    · obtain ⟨x, hx⟩ : ∃ x, d[k]? = some x := ⟨_, List.getElem?_eq_getElem (by have := H.out.2.2.2.1; omega)⟩
      obtain ⟨ax, rfl, hcx⟩ := H.out.2.2.2.2 k (.int .i64 x) (by rw [List.getElem?_map, hx]; rfl)
      have HX := Lib.hid hx
      have l1 : (k : Int) < (nd : Int) := by omega
      clear hx
      have hbad : badD n x = true → Hid (false = b) := fun h => Lib.hid (by
        have h2 : d.any (badD n) = true := List.any_eq_true.2 ⟨x, List.mem_of_getElem? HX.out, h⟩
        rw [H.out.1]; unfold divV; rw [H.out.2.1, h2]; simp)
      by_cases h0 : x < 0
      · have HB := hbad (by simp [badD]; omega)
        clear hbad
        go_wp2_with fail
        go_ret
        exact ⟨ret_bool HB.out, rfl⟩
      · by_cases h1 : (n : Int) ≤ x
        · have HB := hbad (by simp [badD]; omega)
          clear hbad
          go_wp2_with fail
          go_ret
          exact ⟨ret_bool HB.out, rfl⟩
        · have HN : Hid ((d.take (k + 1)).any (badD n) = false) := Lib.hid (by rw [List.take_add_one, HX.out, List.any_append, HA.out]; simp [badD]; omega)
          clear hbad
          go_wp2_with fail
          go_round
          case rel => exact ⟨k + 1, by omega, by go_num, HN.out⟩
          case measure => simp [intOf]; omega
    · have HN : Hid (b = decide (nd = m)) := Lib.hid (by
        have h := HA.out
        rw [List.take_of_length_le (by rw [H.out.2.2.2.1]; omega)] at h
        rw [H.out.1]; unfold divV; rw [H.out.2.1, h, H.out.2.2.2.1, ← H.out.2.2.1]; simp)
      by_cases he : nd = m
      · subst he
        go_wp2_with fail
        go_ret
        exact ⟨ret_bool (by rw [HN.out]; simp), rfl⟩
      · have h1 : ((nd : Int) == (m : Int)) = false := by rw [beq_eq_false_iff_ne]; omega
        have HN2 : Hid (false = b) := Lib.hid (by rw [HN.out, decide_eq_false he])
        clear he
        go_wp2_with fail
        go_ret
        exact ⟨ret_bool HN2.out, rfl⟩

set_option maxHeartbeats 800000 in
theorem divided_any (A D : Option Addr) (n cap nd capd : Nat) (V : List (List Int)) (d : List Int) (w : World) (hlV : V.length = n) (hn : n ≤ 9223372036854775807) (hV : Mat w A V)
    (hl : d.length = nd) (hnd : nd ≤ 9223372036854775807) (hD : Ints w D d) :
    Calls Try.prog 21 #[.slice A n cap, .slice D nd capd] w fun e w' => e = .returned (.bool (valV V && divV V d)) ∧ w = w' := by
  have H := Lib.hid (And.intro hlV (And.intro hV (And.intro hl hD)))
  clear hlV hV hl hD
  go_enter Try.func21, Try.ntmps21
  go_wp2_with fail
  refine (r1valid_any A n cap V _ H.out.1 hn H.out.2.1).mono ?_
  rintro e w' ⟨rfl, rfl⟩
  cases hv : valV V
  · have HV := Lib.hid hv
    clear hv
    go_wp2_with fail
    go_ret
    exact ⟨ret_bool (by rw [HV.out]; rfl), rfl⟩
  · have HV1 := Lib.hid hv
    have hh := valV_iff.1 hv
    have h1 : 1 ≤ n ∧ n ≤ 1000 := by have := H.out.1; omega
    have h2 : (rowV V 0).length ≤ 1000 := by omega
    have HV := Lib.hid h2
    clear hv hh h2
    go_wp2_with fail
    refine (r1division_any A D n cap nd capd _ V d _ H.out.1 h1 rfl HV.out H.out.2.1 H.out.2.2.1 hnd H.out.2.2.2).mono ?_
    rintro e w' ⟨rfl, rfl⟩
    go_wp2_with fail
    go_ret
    exact ⟨ret_bool (by rw [HV1.out]; rfl), rfl⟩

/- Contract: Few of package corrodylaw01. -/

/-- What Few returns. -/
def fewV (V : List (List Int)) : List (List Int) := (V.take 6).map (·.take 9)
theorem fewV_on {V : List (List Int)} {k : Nat} {r : List Int} (h : V[k]? = some r) (hk : k < 6) : fewV (V.take (k + 1)) = fewV (V.take k) ++ [r.take 9] := by
  have hkl : k < V.length := (List.getElem?_eq_some_iff.1 h).1
  unfold fewV
  rw [List.take_take, List.take_take, Nat.min_eq_right (by omega), Nat.min_eq_right (by omega), List.take_add_one, h]
  simp
theorem fewV_off {V : List (List Int)} {k : Nat} (hk : 6 ≤ k) : fewV (V.take (k + 1)) = fewV (V.take k) := by
  unfold fewV
  rw [List.take_take, List.take_take, Nat.min_eq_left (by omega), Nat.min_eq_left (by omega)]
theorem fewV_length (V : List (List Int)) : (fewV V).length = min 6 V.length := by simp [fewV]

set_option maxRecDepth 100000 in
set_option maxHeartbeats 1600000 in
theorem few_any (A : Option Addr) (n cap : Nat) (V : List (List Int)) (w : World) (hl : V.length = n) (hn : n ≤ 9223372036854775807) (hV : Mat w A V) :
    Calls Try.prog 19 #[.slice A n cap] w fun e w' => ∃ A' q c, e = .returned (.slice A' q c) ∧ q = (fewV V).length ∧ q ≤ 6 ∧ q ≤ c ∧ c ≤ 9223372036854775807 ∧ Mat w' A' (fewV V) ∧ Below w.heap.size w w' := by
  have H := Lib.hid (And.intro hl hV)
  clear hl hV
  go_enter Try.func19, Try.ntmps19
  go_wp2_with fail
  go_loopw [3, 8] (fun ov iv wr => ∃ (k : Nat) (B : Option Addr) (q bc : Nat) (vs : List Value), k ≤ n ∧ iv = .int .i64 k ∧ ov = .slice B q bc ∧ q = (fewV (V.take k)).length ∧ wr.ownsRow w.heap.size 23 1 (.slice B q bc) q vs ∧ Rows wr 0 vs (fewV (V.take k)) ∧ Below w.heap.size w wr) (fun _ iv _ => n - (intOf iv).toNat)
  case atStart => exact ⟨0, none, 0, 0, [], Nat.zero_le _, rfl, rfl, rfl, World.ownsRow_nil _ _ _ _, Rows.nil, Below.refl _ _⟩
  case round =>
    obtain ⟨k, B, q, bc, vs, hk, rfl, rfl, hq, hown, hrows, hbl⟩ := hrel
    obtain ⟨wo, rfl⟩ : ∃ wo : World, wo = wr := ⟨_, rfl⟩
    have hq6 : q ≤ 6 := by rw [hq, fewV_length]; omega
    have HR := Lib.hid (And.intro hown (And.intro hrows (And.intro hbl hq)))
    have hwsz := hbl.size
    clear hown hrows hbl hq
    by_cases hlt : k < n
    · obtain ⟨r, hr⟩ : ∃ r, V[k]? = some r := ⟨_, List.getElem?_eq_getElem (by have := H.out.1; omega)⟩
      obtain ⟨ad, A', c, rfl, hcell, hrc, hc2, hI⟩ := H.out.2 k r hr
      have hcell2 := (HR.out.2.2.1.cell (lt_of_cell hcell)).trans hcell
      obtain ⟨rl, hrl⟩ : ∃ rl, rl = r.length := ⟨_, rfl⟩
      rw [← hrl] at hcell2 hrc
      have HI := Lib.hid (And.intro (hI.below HR.out.2.2.1) (And.intro hrl hr))
      have l1 : (k : Int) < (n : Int) := by omega
      clear hr hcell hI hrl
      by_cases h6 : k < 6
      · go_wp2_with fail
        refine (list_any A' rl c r _ HI.out.2.1.symm hrc hc2 HI.out.1).mono ?_
        rintro e w2 ⟨A2, c2, rfl, hown2, hb2⟩
        have hb2' : Below wo.heap.size wo w2 := hb2
        have hw2 := hb2.size
        have H2 := Lib.hid (And.intro (own_below HR.out.1 hb2) (And.intro (HR.out.2.1.below hb2) (And.intro (Row1.of_own hown2 0) (And.intro hb2 (fewV_on HI.out.2.2 h6)))))
        clear hown2 hb2 hb2'
        go_wp2_with (at_builtin; refine app1 sty_intss rfl _ _ rfl w.heap.size B q bc _ #[.slice A2 (min rl 9) c2] rfl (by simp [Value.oneCell']) rfl H2.out.1 rfl (by omega) (by omega) ?_)
        intro A8 k8 w8 hown8 hg8 hbl8 hk81 hk82
        have hrows8 : Rows w8 0 (vs ++ [.slice A2 (min rl 9) c2]) (fewV (V.take (k + 1))) := by
          rw [H2.out.2.2.2.2]
          exact (H2.out.2.1.grown H2.out.1 (Nat.zero_le _) hg8).append (Rows.one_ (H2.out.2.2.1.grown H2.out.1 (Nat.zero_le _) hg8))
        have hlen8 : q + 1 = (fewV (V.take (k + 1))).length := by rw [H2.out.2.2.2.2, List.length_append, ← HR.out.2.2.2]; rfl
        have H8 := Lib.hid (And.intro hown8 (And.intro hrows8 (And.intro (HR.out.2.2.1.trans ((H2.out.2.2.2.1.mono hwsz).trans hbl8)) hlen8)))
        clear hown8 hg8 hbl8 hrows8 hlen8
        go_wp2_with fail
        go_roundw
        case rel => exact ⟨k + 1, A8, q + 1, k8, _, by omega, by go_num, by go_num, H8.out.2.2.2, H8.out.1, H8.out.2.1, H8.out.2.2.1⟩
        case measure => simp [intOf]; omega
      · have HE := Lib.hid (fewV_off (V := V) (k := k) (by omega))
        go_wp2_with fail
        go_roundw
        case rel => exact ⟨k + 1, B, q, bc, vs, by omega, by go_num, rfl, by rw [HE.out]; exact HR.out.2.2.2, HR.out.1, by rw [HE.out]; exact HR.out.2.1, HR.out.2.2.1⟩
        case measure => simp [intOf]; omega
    · obtain rfl : k = n := by omega
      go_wp2_with fail
      go_ret
      have hT : V.take k = V := List.take_of_length_le (by have := H.out.1; omega)
      obtain ⟨g1, g2, g3, g4⟩ := HR.out
      rw [hT] at g2 g4
      obtain ⟨A', c', he, h1, h2, _⟩ := own_form g1
      injection he with e1 e2 e3
      subst e1; subst e3
      exact ⟨B, q, bc, rfl, g4, hq6, h1, h2, Mat.of_rows (At.of_own g1) g2, g3⟩
end Go.Proofs.Ytkljambjdiblkaa
