/- Contract: best of package split, for whatever score it is called with. -/
import Derived.Test.YtkljambjdiblkaaSEach
import Derived.Test.YtkljambjdiblkaaSCmp
import Derived.Test.YtkljambjdiblkaaCloneD
namespace Go.Proofs.Ytkljambjdiblkaa
open Go.RowKit

/-- The first of the first t divisions with the greatest score. -/
def bst (S : Nat → List Int) : Nat → Nat
  | 0 => 0
  | t + 1 => if t = 0 then 0 else if 0 < cmpL (S t) (S (bst S t)) then t else bst S t
theorem bst_lt (S : Nat → List Int) (t : Nat) (h : 0 < t) : bst S t < t := by
  induction t with
  | zero => omega
  | succ t ih =>
    simp only [bst]
    split
    · omega
    · split
      · omega
      · have := ih (by omega); omega

/-- What best works on. -/
structure SBX where
  w0 : World
  B : Nat
  n : Nat
  m : Nat
  K : FuncId
  caps : Array Value
  S : Nat → List Int
/-- The best so far. -/
def SBX.cur (X : SBX) (t : Nat) (w : World) : Prop :=
  (t = 0 → Blk w (X.B + 1) 64 #[.slice none 0 0] ∧ Blk w (X.B + 2) 23 #[.slice none 0 0]) ∧
  (0 < t → ∃ A c Am k cm, Blk w (X.B + 1) 64 #[.slice (some A) X.m c] ∧ X.m ≤ c ∧ c ≤ 9223372036854775807 ∧ Ints w (some A) (dz X.n X.m (bst X.S t)) ∧ X.B + 3 < A.block ∧
    Blk w (X.B + 2) 23 #[.slice Am k cm] ∧ k = (X.S (bst X.S t)).length ∧ k ≤ cm ∧ cm ≤ 9223372036854775807 ∧ Ints w Am (X.S (bst X.S t)) ∧ ∀ ad, Am = some ad → X.B + 3 < ad.block)
def SBX.inv (X : SBX) (t : Nat) (w : World) : Prop := Below X.B X.w0 w ∧ Blk w X.B 100 #[.func (.func X.K) #[] X.caps] ∧ X.cur t w

theorem ints_far {w : World} {A : Option Addr} {xs : List Int} (h : Ints w A xs) {p : Addr} (hp : ∀ ad, A = some ad → ad.block ≠ p.block) (v : Value) : Ints (w.setCell p v) A xs := by
  intro i u hu
  obtain ⟨ad, hA, hc⟩ := h i u hu
  refine ⟨ad, hA, ?_⟩
  rw [World.cell?_of_block (w := w) (Below.heap_setCell w p v _ (by rw [add_block]; exact hp ad hA))]
  exact hc
theorem SBX.cur_set {X : SBX} {t : Nat} {w : World} (h : X.cur t w) (i : Nat) (v : Value) : X.cur t (w.setCell ⟨X.B + 3, i, none⟩ v) := by
  refine ⟨fun h0 => ?_, fun h0 => ?_⟩
  · obtain ⟨h1, h2⟩ := h.1 h0
    exact ⟨h1.far (by show X.B + 1 ≠ X.B + 3; omega) _, h2.far (by show X.B + 2 ≠ X.B + 3; omega) _⟩
  · obtain ⟨A, c, Am, k, cm, h1, h1a, h1b, h2, h3, h4, h5, h5a, h5b, h6, h7⟩ := h.2 h0
    exact ⟨A, c, Am, k, cm, h1.far (by show X.B + 1 ≠ X.B + 3; omega) _, h1a, h1b, ints_far h2 (fun ad ha => by injection ha with ha; subst ha; show A.block ≠ X.B + 3; omega) _, h3, h4.far (by show X.B + 2 ≠ X.B + 3; omega) _, h5, h5a, h5b,
      ints_far h6 (fun ad ha => by have := h7 ad ha; show ad.block ≠ X.B + 3; omega) _, h7⟩
theorem SBX.inv_set {X : SBX} {t : Nat} {w : World} (h : X.inv t w) (i : Nat) (v : Value) : X.inv t (w.setCell ⟨X.B + 3, i, none⟩ v) :=
  ⟨h.1.setCell (by show X.B ≤ X.B + 3; omega) _, h.2.1.far (by show X.B ≠ X.B + 3; omega) _, SBX.cur_set h.2.2 i v⟩

/-- What the score answers. -/
def ScorePost (S : List Int) (w' : World) (e : Ending) (w'' : World) : Prop := ∃ A c, e = .returned (.slice A S.length c) ∧ w''.ownsRow w'.heap.size 3 1 (.slice A S.length c) S.length (S.map (Value.int .i64)) ∧ Below w'.heap.size w' w''

set_option maxRecDepth 100000 in
set_option maxHeartbeats 1600000 in
theorem best1_any (X : SBX) (hm7 : 1 ≤ X.m ∧ X.m ≤ 7) (hK : Ent X.K) (hS : ∀ t, (X.S t).length ≤ 1000) (t : Nat) (w : World)
    (hscore : Calls Try.prog X.K (#[.slice (some ⟨X.B + 3, 0, none⟩) X.m X.m] ++ X.caps) w (ScorePost (X.S t) w))
    (hinv : X.inv t w) (hD : Blk w (X.B + 3) 3 (arr (dz X.n X.m t))) :
    Calls Try.prog 101 #[.slice (some ⟨X.B + 3, 0, none⟩) X.m X.m, .pointer (some ⟨X.B, 0, none⟩), .pointer (some ⟨X.B + 1, 0, none⟩), .pointer (some ⟨X.B + 2, 0, none⟩)] w (EachPost X.inv (fun _ => False) X.n X.m t (X.B + 3)) := by
  have qT : ∀ (w : World) (a : Option Addr) (n c n' c' : Nat), (binOp .eql 64 (.slice a n c) (.slice none n' c')).run Try.prog w = .ok (.bool a.isNone) w := fun w a n c n' c' => Lib.run_eql_slice_nil w _ _ a n c n' c' Try.underlying64
  unfold Ent at hK
  obtain ⟨hbl, hof, hcur⟩ := hinv
  obtain ⟨o1, o2⟩ := hof.at1
  have hDw := hD.lt
  have HSC := Lib.hid hscore
  have H := Lib.hid (And.intro hbl (And.intro hof (And.intro hcur hD)))
  have HS := Lib.hid hS
  clear hbl hof hcur hD hscore hS
  go_enter Try.func101, Try.ntmps101
  go_wp2_with fail
  refine HSC.out.mono ?_
  rintro e w1 ⟨A1, c1, rfl, hown1, hb1⟩
  have hI1 : Ints w1 A1 (X.S t) := At.of_own hown1
  obtain ⟨_, _, he, hc11, hc12, _⟩ := own_form hown1
  injection he with e1 _ e3
  subst e1; subst e3
  have hA1 : ∀ ad, A1 = some ad → w.heap.size ≤ ad.block := by
    intro ad ha
    rcases hown1.2 with ⟨h, _⟩ | ⟨g, cap, cur, hv, hg, _⟩
    · rw [ha] at h; cases h
    · injection hv with h1
      rw [ha] at h1
      injection h1 with h1
      rw [h1]; exact hg
  obtain ⟨k1, hk1⟩ : ∃ k, k = (X.S t).length := ⟨_, rfl⟩
  have hk1b : k1 ≤ 1000 := by rw [hk1]; exact HS.out t
  rw [← hk1] at hc11 ⊢
  have hw1 := hb1.size
  have hD1 := H.out.2.2.2.below hb1 hDw
  have hID : Ints w1 (some ⟨X.B + 3, 0, none⟩) (dz X.n X.m t) := blk_ints hD1
  have hof1 := H.out.2.1.below hb1 (by omega)
  have hbl1 : Below X.B X.w0 w1 := H.out.1.trans (hb1.mono (by omega))
  have H1 := Lib.hid (And.intro hI1 (And.intro hb1 (And.intro hD1 (And.intro hof1 (And.intro hbl1 (And.intro hA1 (And.intro hk1 hID)))))))
  clear hown1 hI1 hb1 hD1 hof1 hbl1 hA1 hk1 hID
  -- what is left behind the two stores
  have fin : ∀ (w2 : World) (A2 : Addr) (c2 : Nat) (w5 : World), bst X.S (t + 1) = t → Below w1.heap.size w1 w2 → Ints w2 (some A2) (dz X.n X.m t) → w1.heap.size ≤ A2.block → X.m ≤ c2 → c2 ≤ 9223372036854775807 →
      Blk w2 (X.B + 1) 64 #[.slice none 0 0] ∧ Blk w2 (X.B + 2) 23 #[.slice none 0 0] ∨ (∃ v1 v2, Blk w2 (X.B + 1) 64 #[v1] ∧ Blk w2 (X.B + 2) 23 #[v2]) →
      w5 = (w2.setCell ⟨X.B + 1, 0, none⟩ (.slice (some A2) X.m c2)).setCell ⟨X.B + 2, 0, none⟩ (.slice A1 k1 c1) →
      X.inv (t + 1) w5 ∧ Blk w5 (X.B + 3) 3 (arr (dz X.n X.m t)) := by
    intro w2 A2 c2 w5 hbst hb2 hI2 hA2 hc21 hc22 hout hw5
    obtain ⟨hI1, hb1, hD1, hof1, hbl1, hA1, hk1, hID⟩ := H1.out
    have ho : ∃ v1 v2, Blk w2 (X.B + 1) 64 #[v1] ∧ Blk w2 (X.B + 2) 23 #[v2] := by
      rcases hout with ⟨h1, h2⟩ | h
      · exact ⟨_, _, h1, h2⟩
      · exact h
    obtain ⟨v1, v2, g1, g2⟩ := ho
    have q1 : Blk w5 (X.B + 1) 64 #[.slice (some A2) X.m c2] := by
      rw [hw5]; exact (g1.set_ 0 _).far (by show X.B + 1 ≠ X.B + 2; omega) _
    have q2 : Blk w5 (X.B + 2) 23 #[.slice A1 k1 c1] := by
      rw [hw5]; exact (g2.far (by show X.B + 2 ≠ X.B + 1; omega) _).set_ 0 _
    refine ⟨⟨?_, ?_, ?_⟩, ?_⟩
    · rw [hw5]; exact ((hbl1.trans (hb2.mono (by omega))).setCell (by show X.B ≤ X.B + 1; omega) _).setCell (by show X.B ≤ X.B + 2; omega) _
    · rw [hw5]; exact ((hof1.below hb2 (by omega)).far (by show X.B ≠ X.B + 1; omega) _).far (by show X.B ≠ X.B + 2; omega) _
    · refine ⟨fun h => by omega, fun _ => ?_⟩
      rw [hbst]
      refine ⟨A2, c2, A1, k1, c1, q1, hc21, hc22, ?_, by omega, q2, hk1, hc11, hc12, ?_, fun ad ha => by have := hA1 ad ha; omega⟩
      · rw [hw5]
        refine ints_far (ints_far hI2 (fun ad ha => ?_) _) (fun ad ha => ?_) _
        · injection ha with ha; subst ha; show A2.block ≠ X.B + 1; omega
        · injection ha with ha; subst ha; show A2.block ≠ X.B + 2; omega
      · rw [hw5]
        refine ints_far (ints_far (hI1.below hb2) (fun ad ha => ?_) _) (fun ad ha => ?_) _
        · have := hA1 ad ha; show ad.block ≠ X.B + 1; omega
        · have := hA1 ad ha; show ad.block ≠ X.B + 2; omega
    · rw [hw5]
      exact ((hD1.below hb2 (by omega)).far (by show X.B + 3 ≠ X.B + 1; omega) _).far (by show X.B + 3 ≠ X.B + 2; omega) _
  have FIN := Lib.hid fin
  clear fin
  by_cases h0 : t = 0
  · obtain ⟨g1, g2⟩ := H.out.2.2.1.1 h0
    have g1' := g1.below H1.out.2.1 (by omega)
    have g2' := g2.below H1.out.2.1 (by omega)
    obtain ⟨p1, p2⟩ := g1'.at1
    have HP := Lib.hid (And.intro g1' g2')
    have hBst : Hid (bst X.S (t + 1) = t) := Lib.hid (by rw [h0]; simp [bst])
    clear g1 g2 g1' g2' h0
    go_wp2_with fail
    refine (cloneD_any (some ⟨X.B + 3, 0, none⟩) X.m X.m (dz X.n X.m t) _ (by rw [dz_length]) (by omega) H1.out.2.2.2.2.2.2.2).mono ?_
    rintro e w2 ⟨A2, c2, rfl, hown2, hb2⟩
    have hI2 : Ints w2 A2 (dz X.n X.m t) := At.of_own hown2
    obtain ⟨g, rfl, hg, _⟩ := own_some hown2 (by omega)
    obtain ⟨_, _, he2, hc21, hc22, _⟩ := own_form hown2
    injection he2 with e4 _ e5
    subst e4
    subst e5
    have g1 := HP.out.1.below hb2 (by omega)
    have g2 := HP.out.2.below hb2 (by omega)
    obtain ⟨p3, p4⟩ := g1.at1
    obtain ⟨p5, p6⟩ := g2.at1
    have H2 := Lib.hid (FIN.out w2 ⟨g, 0, none⟩ c2 _ hBst.out hb2 hI2 hg hc21 hc22 (.inl ⟨g1, g2⟩) rfl)
    clear hown2 hI2 g1 g2 hb2 p1 p2
    go_wp2_with fail
    go_ret
    exact .inl ⟨rfl, H2.out⟩
  · obtain ⟨A, c, Am, k, cm, h1, h1a, h1b, h2, h3, h4, h5, h5a, h5b, h6, h7⟩ := H.out.2.2.1.2 (by omega)
    have g1' := h1.below H1.out.2.1 (by omega)
    have g2' := h4.below H1.out.2.1 (by omega)
    obtain ⟨p1, p2⟩ := g1'.at1
    obtain ⟨p3, p4⟩ := g2'.at1
    have hkb : k ≤ 1000 := by rw [h5]; exact HS.out _
    have hstep : bst X.S (t + 1) = if 0 < cmpL (X.S t) (X.S (bst X.S t)) then t else bst X.S t := by rw [bst, if_neg h0]
    have HP := Lib.hid (And.intro g1' (And.intro g2' (And.intro (h2.below H1.out.2.1) (And.intro (h6.below H1.out.2.1) (And.intro h5 (And.intro h7 hstep))))))
    clear h1 h2 h4 h5 h6 h7 g1' g2' hstep
    go_wp2_with fail
    refine (compare_any A1 Am k1 k c1 cm (X.S t) (X.S (bst X.S t)) _ H1.out.2.2.2.2.2.2.1.symm HP.out.2.2.2.2.1.symm hk1b hkb H1.out.1 HP.out.2.2.2.1).mono ?_
    rintro e w' ⟨rfl, rfl⟩
    have hcb := cmpL_bd (X.S t) (X.S (bst X.S t))
    have hst2 := HP.out.2.2.2.2.2.2
    obtain ⟨cv, hcv⟩ : ∃ cv, cv = cmpL (X.S t) (X.S (bst X.S t)) := ⟨_, rfl⟩
    rw [← hcv] at hcb hst2 ⊢
    have HST := Lib.hid hst2
    clear hst2 hcv
    by_cases hgt : 0 < cv
    · have hBst : Hid (bst X.S (t + 1) = t) := Lib.hid (by rw [HST.out, if_pos hgt])
      go_wp2_with fail
      refine (cloneD_any (some ⟨X.B + 3, 0, none⟩) X.m X.m (dz X.n X.m t) _ (by rw [dz_length]) (by omega) H1.out.2.2.2.2.2.2.2).mono ?_
      rintro e w2 ⟨A2, c2, rfl, hown2, hb2⟩
      have hI2 : Ints w2 A2 (dz X.n X.m t) := At.of_own hown2
      obtain ⟨g, rfl, hg, _⟩ := own_some hown2 (by omega)
      obtain ⟨_, _, he2, hc21, hc22, _⟩ := own_form hown2
      injection he2 with e4 _ e5
      subst e4
      subst e5
      have g1 := HP.out.1.below hb2 (by omega)
      have g2 := HP.out.2.1.below hb2 (by omega)
      clear p1 p2 p3 p4
      obtain ⟨p3, p4⟩ := g1.at1
      obtain ⟨p5, p6⟩ := g2.at1
      have H2 := Lib.hid (FIN.out w2 ⟨g, 0, none⟩ c2 _ hBst.out hb2 hI2 hg hc21 hc22 (.inr ⟨_, _, g1, g2⟩) rfl)
      clear hown2 hI2 g1 g2 hb2
      go_wp2_with fail
      go_ret
      exact .inl ⟨rfl, H2.out⟩
    · have hBst : Hid (bst X.S (t + 1) = bst X.S t) := Lib.hid (by rw [HST.out, if_neg hgt])
      go_wp2_with fail
      go_ret
      refine .inl ⟨rfl, ⟨H1.out.2.2.2.2.1, H1.out.2.2.2.1, ⟨fun h => by omega, fun _ => ?_⟩⟩, H1.out.2.2.1⟩
      rw [hBst.out]
      exact ⟨A, c, Am, k, cm, HP.out.1, h1a, h1b, HP.out.2.2.1, h3, HP.out.2.1, HP.out.2.2.2.2.1, h5a, h5b, HP.out.2.2.2.1, HP.out.2.2.2.2.2.1⟩

theorem ent_best1 : Ent 101 := ent_of Try.func101 (by kernel_rfl) (by kernel_rfl)

/-- What best leaves. -/
def BestPost (n m : Nat) (S : Nat → List Int) (b : Nat) (w : World) (e : Ending) (w' : World) : Prop :=
  ∃ A c Am cm, e = .returned (.tuple #[.slice (some A) m c, .slice Am (S b).length cm]) ∧ m ≤ c ∧ c ≤ 9223372036854775807 ∧ Ints w' (some A) (dz n m b) ∧ (S b).length ≤ cm ∧ cm ≤ 9223372036854775807 ∧ Ints w' Am (S b) ∧ Below w.heap.size w w'

set_option maxRecDepth 100000 in
set_option maxHeartbeats 1600000 in
theorem best_any (A : Option Addr) (n cap m : Nat) (V : List (List Int)) (K2 : FuncId) (caps2 : Array Value) (S : Nat → List Int) (w : World) (hK : Ent K2) (hS : ∀ t, (S t).length ≤ 1000)
    (hl : V.length = n) (hn : 1 ≤ n ∧ n ≤ 4) (hm : m = (rowV V 0).length) (hm7 : 1 ≤ m ∧ m ≤ 7) (hV : Mat w A V)
    (hscore : ∀ t w', t < n ^ m → Below w.heap.size w w' → Blk w' (w.heap.size + 3) 3 (arr (dz n m t)) → Calls Try.prog K2 (#[.slice (some ⟨w.heap.size + 3, 0, none⟩) m m] ++ caps2) w' (ScorePost (S t) w')) :
    Calls Try.prog 76 #[.slice A n cap, .func (.func K2) #[] caps2] w (BestPost n m S (bst S (n ^ m)) w) := by
  have H := Lib.hid (And.intro hK (And.intro hS (And.intro hl (And.intro hm (And.intro hV hscore)))))
  clear hK hS hl hm hV hscore
  go_enter Try.func76, Try.ntmps76
  go_wp2_with fail
  obtain ⟨hK, hS, hl, hm, hV, hscore⟩ := H.out
  obtain ⟨X, hX⟩ : ∃ X : SBX, X = { w0 := w, B := w.heap.size, n := n, m := m, K := K2, caps := caps2, S := S } := ⟨_, rfl⟩
  have e1 : X.B = w.heap.size := by rw [hX]
  have hb3 : ∀ o1 o2 o3, Below w.heap.size w (((w.alloc o1).alloc o2).alloc o3) := fun o1 o2 o3 => (((Below.refl _ _).alloc (by go_size) _).alloc (by go_size) _).alloc (by go_size) _
  have hz : ∀ o1 o2 o3 : Obj, (((w.alloc o1).alloc o2).alloc o3).heap.size = w.heap.size + 3 := fun o1 o2 o3 => by simp
  refine (each_any 101 #[.pointer (some ⟨w.heap.size, 0, none⟩), .pointer (some ⟨w.heap.size + 1, 0, none⟩), .pointer (some ⟨w.heap.size + 1 + 1, 0, none⟩)] A n cap m V _ X.inv (fun _ => False) ent_best1 hl hn hm hm7 (hV.below (hb3 _ _ _)) ?hst ?hset ?hcall).mono ?_
  case hst =>
    have b1 : Blk ((((w.alloc (.cells #[.func (.func K2) #[] caps2] 100)).alloc (.cells #[.slice none 0 0] 64)).alloc (.cells #[.slice none 0 0] 23)).alloc (.cells (arr (List.replicate m 0)) 3)) w.heap.size 100 #[.func (.func K2) #[] caps2] := (((Blk.new _ _ _ rfl).alloc _).alloc _).alloc _
    have b2 : Blk ((((w.alloc (.cells #[.func (.func K2) #[] caps2] 100)).alloc (.cells #[.slice none 0 0] 64)).alloc (.cells #[.slice none 0 0] 23)).alloc (.cells (arr (List.replicate m 0)) 3)) (w.heap.size + 1) 64 #[.slice none 0 0] := ((Blk.new _ _ _ (by simp)).alloc _).alloc _
    have b3 : Blk ((((w.alloc (.cells #[.func (.func K2) #[] caps2] 100)).alloc (.cells #[.slice none 0 0] 64)).alloc (.cells #[.slice none 0 0] 23)).alloc (.cells (arr (List.replicate m 0)) 3)) (w.heap.size + 2) 23 #[.slice none 0 0] := (Blk.new _ _ _ (by simp)).alloc _
    rw [hX]
    exact ⟨(hb3 _ _ _).alloc (by simp; omega) _, b1, fun _ => ⟨b2, b3⟩, fun h => by omega⟩
  case hset =>
    intro t w' i v h
    rw [hz]
    have := SBX.inv_set h i v
    rwa [e1] at this
  case hcall =>
    intro t w' ht hinv hB
    rw [hz] at hB ⊢
    have hsc := hscore t w' ht (by have h := hinv.1; rw [hX] at h; exact h) hB
    have h := best1_any X (by rw [hX]; exact hm7) (by rw [hX]; exact hK) (by rw [hX]; exact hS) t w' (by rw [hX]; exact hsc) hinv (by rw [hX]; exact hB)
    rw [hX] at h ⊢
    exact h
  rintro e w' ⟨rfl, hi | hi⟩
  · have hpos : 0 < n ^ m := Nat.pow_pos (by omega)
    have hc := hi.2.2.2 hpos
    have hbl := hi.1
    rw [hX] at hc hbl
    obtain ⟨A', c, Am, k, cm, h1, h1a, h1b, h2, h3, h4, h5, h5a, h5b, h6, h7⟩ := hc
    obtain ⟨p1, p2⟩ := h1.at1
    obtain ⟨p3, p4⟩ := h4.at1
    simp only at p1 p2 p3 p4 h1a h5 h5a
    have HF := Lib.hid (And.intro h2 (And.intro h6 (And.intro hbl (And.intro h5 (And.intro h1a h5a)))))
    clear h1 h2 h3 h4 h5 h6 h7 hbl hi hz hb3 hK hS hl hm hV hscore hX e1 h1a h5a
    go_wp2_with fail
    go_quiet (fail)
    go_wp2_with fail
    go_ret2
    refine ⟨A', c, Am, cm, by rw [← HF.out.2.2.2.1]; rfl, HF.out.2.2.2.2.1, h1b, HF.out.1, by rw [← HF.out.2.2.2.1]; exact HF.out.2.2.2.2.2, h5b, HF.out.2.1, below_drewN HF.out.2.2.1 _⟩
  · exact hi.elim
end Go.Proofs.Ytkljambjdiblkaa
