/- Laws and contracts that the proof of SplitRounds uses, part 5. -/
import Derived.Test.YtkljambjdiblkaaSplitRoundsM4
import Derived.Test.YtkljambjdiblkaaSplitRoundsM1
import Derived.Laws.EntriesVeiled
import Derived.Test.YtkljambjdiblkaaSplitRoundsM2
import Derived.Test.YtkljambjdiblkaaSplitRoundsM3
namespace Go.Proofs.Ytkljambjdiblkaa
open Go.RowKit

/- Contracts: share, Share and Split of package split. -/

/-- What share leaves. -/
def SharPost (l : List Int) (n : Nat) (w : World) (e : Ending) (w' : World) : Prop :=
  ∃ (g c : Nat) (p : List Int), e = .returned (.tuple #[.int .i64 (shV l n), .slice (some ⟨g, 0, none⟩) l.length c]) ∧ l.length ≤ c ∧ c ≤ 9223372036854775807 ∧ p.length = l.length ∧ (∀ x ∈ p, 0 ≤ x ∧ x < n) ∧ Ints w' (some ⟨g, 0, none⟩) p ∧ lmin (sumsTo l p n l.length) = shV l n ∧ Below w.heap.size w w'

set_option maxRecDepth 100000 in
set_option maxHeartbeats 3200000 in
theorem shar_any (A : Option Addr) (m cap n : Nat) (l : List Int) (w : World) (hl : l.length = m) (hm : 1 ≤ m ∧ m ≤ 7) (hn : 1 ≤ n ∧ n ≤ 7) (hlb : ∀ x ∈ l, 0 ≤ x ∧ x ≤ 100) (hI : Ints w A l) :
    Calls Try.prog 58 #[.slice A m cap, .int .i64 n] w (SharPost l n w) := by
  obtain ⟨ad, rfl, _⟩ := hI.some_ (by omega)
  obtain ⟨X, hX⟩ : ∃ X : SX, X = { w0 := w, ad := ad, B := w.heap.size, m := m, n := n, cap := cap, l := l } := ⟨_, rfl⟩
  have hok : X.ok := by rw [hX]; exact ⟨rfl, hm, hn, hl, hlb, hI⟩
  have hmk := make_div m (by omega)
  have hmk2 := make_ints n (by omega)
  have e1 : X.B = w.heap.size := by rw [hX]
  have e2 : X.m = m := by rw [hX]
  have e3 : X.n = n := by rw [hX]
  have e4 : X.l = l := by rw [hX]
  have e5 : X.cap = cap := by rw [hX]
  have e6 : X.ad = ad := by rw [hX]
  have e7 : X.w0 = w := by rw [hX]
  have hcall : ∀ W : World, X.st (List.replicate m 0) (List.replicate n 0) (-1) W → Calls Try.prog 92 #[.int .i64 0, .int .i64 0, .pointer (some ⟨w.heap.size, 0, none⟩), .pointer (some ⟨w.heap.size + 1 + 1 + 1 + 1 + 1 + 1 + 1, 0, none⟩), .pointer (some ⟨w.heap.size + 1 + 1, 0, none⟩), .pointer (some ⟨w.heap.size + 1 + 1 + 1 + 1 + 1, 0, none⟩), .pointer (some ⟨w.heap.size + 1 + 1 + 1, 0, none⟩), .pointer (some ⟨w.heap.size + 1, 0, none⟩), .pointer (some ⟨w.heap.size + 1 + 1 + 1 + 1 + 1 + 1 + 1 + 1, 0, none⟩)] W (X.post 0 0 (List.replicate m 0) (List.replicate n 0) (-1)) := by
    intro W hW
    have h := try_any X hok m 0 0 (List.replicate m 0) (List.replicate n 0) (-1) W (by omega) (by omega) hW (by rw [e3]; rfl) (fun i hi => by omega)
    rw [e1] at h
    exact h
  have hst : ∀ F : Value, F = .func (.func 92) #[] X.caps → X.st (List.replicate m 0) (List.replicate n 0) (-1) (((((((((w.alloc (.cells #[.slice (some ad) m cap] 23)).alloc (.cells #[.int .i64 n] 3)).alloc (.cells #[.int .i64 (-1)] 3)).alloc (.cells #[.slice none 0 0] 64)).alloc (.cells (arr (List.replicate m 0)) 3)).alloc
      (.cells #[.slice (some ⟨w.heap.size + 1 + 1 + 1 + 1, 0, none⟩) m m] 64)).alloc (.cells (arr (List.replicate n 0)) 3)).alloc (.cells #[.slice (some ⟨w.heap.size + 1 + 1 + 1 + 1 + 1 + 1, 0, none⟩) n n] 23)).alloc (.cells #[F] 95)) := by
    intro F hF
    subst hF
    refine ⟨?_, ?_, ?_, ?_, ?_, ?_, ?_, ?_, ⟨.slice none 0 0, ?_, .inl ⟨rfl, rfl⟩⟩, ?_, by rw [List.length_replicate, e2], by rw [List.length_replicate, e3], by omega⟩
    · rw [e1, e2, e5, e6]; exact ((((((((Blk.new _ _ _ rfl).alloc _).alloc _).alloc _).alloc _).alloc _).alloc _).alloc _).alloc _
    · rw [e1, e3]; exact (((((((Blk.new _ _ _ (by simp)).alloc _).alloc _).alloc _).alloc _).alloc _).alloc _).alloc _
    · rw [e1]; exact ((((((Blk.new _ _ _ (by simp)).alloc _).alloc _).alloc _).alloc _).alloc _).alloc _
    · rw [e1]; exact ((((Blk.new _ _ _ (by simp)).alloc _).alloc _).alloc _).alloc _
    · rw [e1, e2]; exact (((Blk.new _ _ _ (by simp)).alloc _).alloc _).alloc _
    · rw [e1]; exact ((Blk.new _ _ _ (by simp)).alloc _).alloc _
    · rw [e1, e3]; exact (Blk.new _ _ _ (by simp)).alloc _
    · rw [e1]; exact Blk.new _ _ _ (by simp)
    · rw [e1]; exact (((((Blk.new _ _ _ (by simp)).alloc _).alloc _).alloc _).alloc _).alloc _
    · rw [e1, e7]
      exact (((((((((Below.refl _ _).alloc (Nat.le_refl _) _).alloc (by go_size) _).alloc (by go_size) _).alloc (by go_size) _).alloc (by go_size) _).alloc (by go_size) _).alloc (by go_size) _).alloc (by go_size) _).alloc (by go_size) _
  have hcaps : Value.func (.func 92) #[] #[.pointer (some ⟨w.heap.size, 0, none⟩), .pointer (some ⟨w.heap.size + 1 + 1 + 1 + 1 + 1 + 1 + 1, 0, none⟩), .pointer (some ⟨w.heap.size + 1 + 1, 0, none⟩), .pointer (some ⟨w.heap.size + 1 + 1 + 1 + 1 + 1, 0, none⟩), .pointer (some ⟨w.heap.size + 1 + 1 + 1, 0, none⟩), .pointer (some ⟨w.heap.size + 1, 0, none⟩), .pointer (some ⟨w.heap.size + 1 + 1 + 1 + 1 + 1 + 1 + 1 + 1, 0, none⟩)] = .func (.func 92) #[] X.caps := by
    unfold SX.caps; rw [e1]
  have hshv : max (-1) (sh (X.l.drop 0) (List.replicate n 0) 0) = shV l n := by
    have h := shV_nonneg (l := l) (n := n) hn.1 (fun x hx => (hlb x hx).1)
    rw [e4, List.drop_zero]
    exact Int.max_eq_right (by unfold shV at h; omega)
  have hv0 := shV_nonneg (l := l) (n := n) hn.1 (fun x hx => (hlb x hx).1)
  have H := Lib.hid (And.intro hcall (And.intro (hst _ hcaps) (And.intro hl (And.intro e1 (And.intro e2 (And.intro e3 (And.intro e4 (And.intro e7 (And.intro hshv hv0)))))))))
  clear hX hok hl hlb hI e1 e2 e3 e4 e5 e6 e7 hcall hst hshv hv0 hcaps
  go_enter Try.func58, Try.ntmps58
  go_wp2_with fail
  refine (H.out.1 _ H.out.2.1).mono ?_
  rintro e w1 ⟨rfl, dl, _, hst⟩
  obtain ⟨_, _, hl, e1, e2, e3, e4, e7, hshv, hv0⟩ := H.out
  rw [hshv] at hst
  have hb := hst.bb
  obtain ⟨pv, hp, hf⟩ := hst.fnd
  obtain ⟨v, hv⟩ : ∃ v, v = shV l n := ⟨_, rfl⟩
  rw [← hv] at hb hf hv0
  have hbel := hst.bel
  rcases hf with ⟨hf, _⟩ | ⟨g, c, p, h1, rfl, h3, h4, h5, h6, h7, h8, h9⟩
  · omega
  · rw [e2] at h3 h6
    rw [e2] at hp
    rw [e1] at hb hp h5 hbel
    rw [e3] at h7
    rw [e4, e3, e2] at h9
    rw [e7] at hbel
    obtain ⟨a1, b1⟩ := hb.at1
    obtain ⟨a2, b2⟩ := hp.at1
    have HF := Lib.hid (And.intro hb (And.intro hp (And.intro h6 (And.intro h7 (And.intro h8 (And.intro h9 (And.intro hbel (And.intro hv hl))))))))
    clear hl e1 e2 e3 e4 e7 hshv hst hb hp hbel h6 h7 h8 h9 hv
    go_wp2_with fail
    go_region
    have a3 : (((w1.setCell ⟨w.heap.size + 1 + 1, 0, none⟩ (.int .i64 v)).setCell ⟨w.heap.size + 1 + 1 + 1, 0, none⟩ (.slice (some ⟨g, 0, none⟩) m c)).drew).cell? ⟨w.heap.size + 1 + 1, 0, none⟩ = some (.int .i64 v) := ((HF.out.1.set_ 0 _).far (by show w.heap.size + 2 ≠ w.heap.size + 1 + 1 + 1; omega) _).at1.1
    have a4 : (((w1.setCell ⟨w.heap.size + 1 + 1, 0, none⟩ (.int .i64 v)).setCell ⟨w.heap.size + 1 + 1 + 1, 0, none⟩ (.slice (some ⟨g, 0, none⟩) m c)).drew).cell? ⟨w.heap.size + 1 + 1 + 1, 0, none⟩ = some (.slice (some ⟨g, 0, none⟩) m c) := ((HF.out.2.1.far (by show w.heap.size + 3 ≠ w.heap.size + 1 + 1; omega) _).set_ 0 _).at1.1
    have hI : Ints (((w1.setCell ⟨w.heap.size + 1 + 1, 0, none⟩ (.int .i64 v)).setCell ⟨w.heap.size + 1 + 1 + 1, 0, none⟩ (.slice (some ⟨g, 0, none⟩) m c)).drew) (some ⟨g, 0, none⟩) p := ints_far (ints_far HF.out.2.2.2.2.1 (fun ad ha => by injection ha with ha; subst ha; show g ≠ w.heap.size + 1 + 1; omega) _) (fun ad ha => by injection ha with ha; subst ha; show g ≠ w.heap.size + 1 + 1 + 1; omega) _
    have hB : Below w.heap.size w (((w1.setCell ⟨w.heap.size + 1 + 1, 0, none⟩ (.int .i64 v)).setCell ⟨w.heap.size + 1 + 1 + 1, 0, none⟩ (.slice (some ⟨g, 0, none⟩) m c)).drew) := ((HF.out.2.2.2.2.2.2.1.setCell (by show w.heap.size ≤ w.heap.size + 1 + 1; omega) _).setCell (by show w.heap.size ≤ w.heap.size + 1 + 1 + 1; omega) _).drew
    generalize (((w1.setCell ⟨w.heap.size + 1 + 1, 0, none⟩ (.int .i64 v)).setCell ⟨w.heap.size + 1 + 1 + 1, 0, none⟩ (.slice (some ⟨g, 0, none⟩) m c)).drew) = w2 at a3 a4 hI hB ⊢
    have HG := Lib.hid (And.intro hI hB)
    clear hI hB a1 b1 a2 b2
    go_wp2_with fail
    refine bodyPost_ret (v := .tuple #[.int .i64 v, .slice (some ⟨g, 0, none⟩) m c]) (by simp [results, Try.results58, go_sem, a3, a4]) rfl ?_
    refine ⟨g, c, p, ?_, ?_, h4, ?_, HF.out.2.2.2.1, HG.out.1, ?_, HG.out.2⟩
    · rw [HF.out.2.2.2.2.2.2.2.2, ← HF.out.2.2.2.2.2.2.2.1]
    · rw [HF.out.2.2.2.2.2.2.2.2]; exact h3
    · rw [HF.out.2.2.2.2.2.2.2.2]; exact HF.out.2.2.1
    · rw [HF.out.2.2.2.2.2.2.2.2, HF.out.2.2.2.2.2.1]; exact HF.out.2.2.2.2.2.2.2.1

theorem goodL_iff {l : List Int} {n : Int} : goodL l n = true ↔ (1 ≤ l.length ∧ l.length ≤ 7) ∧ (∀ x ∈ l, 0 ≤ x ∧ x ≤ 100) ∧ 1 ≤ n ∧ n ≤ 7 := by
  unfold goodL
  simp only [Bool.and_eq_true, decide_eq_true_eq, List.all_eq_true, in100]
  constructor
  · rintro ⟨⟨⟨⟨a, b⟩, c⟩, d⟩, e⟩; exact ⟨⟨a, b⟩, c, d, e⟩
  · rintro ⟨⟨a, b⟩, c, d, e⟩; exact ⟨⟨⟨⟨a, b⟩, c⟩, d⟩, e⟩

/-- What Share leaves. -/
def SharePost (l : List Int) (n : Int) (w : World) (e : Ending) (w' : World) : Prop :=
  (goodL l n = false ∧ e = .returned (.tuple #[.int .i64 0, .int .i64 2]) ∧ Below w.heap.size w w') ∨
  (goodL l n = true ∧ e = .returned (.tuple #[.int .i64 (shV l n.toNat), .int .i64 0]) ∧ Below w.heap.size w w')
/-- What Split leaves. -/
def SplitPost (l : List Int) (n : Int) (w : World) (e : Ending) (w' : World) : Prop :=
  (goodL l n = false ∧ e = .returned (.tuple #[.slice none 0 0, .int .i64 2]) ∧ Below w.heap.size w w') ∨
  (goodL l n = true ∧ ∃ (g c : Nat) (p : List Int), e = .returned (.tuple #[.slice (some ⟨g, 0, none⟩) l.length c, .int .i64 0]) ∧ l.length ≤ c ∧ c ≤ 9223372036854775807 ∧ p.length = l.length ∧ (∀ x ∈ p, 0 ≤ x ∧ x < n) ∧ Ints w' (some ⟨g, 0, none⟩) p ∧ lmin (sumsTo l p n.toNat l.length) = shV l n.toNat ∧ Below w.heap.size w w')

set_option maxHeartbeats 1600000 in
theorem share_any (A : Option Addr) (m cap : Nat) (n : Int) (l : List Int) (w : World) (hl : l.length = m) (hm : m ≤ 9223372036854775807) (hI : Ints w A l) :
    Calls Try.prog 25 #[.slice A m cap, .int .i64 n] w (SharePost l n w) := by
  have H := Lib.hid (And.intro hl hI)
  clear hl hI
  go_enter Try.func25, Try.ntmps25
  go_wp2_with fail
  refine (one_any A m cap n l _ H.out.1 hm H.out.2).mono ?_
  rintro e w1 ⟨rfl, rfl⟩
  cases hg : goodL l n
  · have HG := Lib.hid hg
    clear hg
    go_wp2_with fail
    go_ret2
    exact .inl ⟨HG.out, rfl, Below.refl _ _⟩
  · obtain ⟨h1, h2, h3, h4⟩ := goodL_iff.1 hg
    obtain ⟨nn, rfl⟩ : ∃ nn : Nat, n = (nn : Int) := ⟨n.toNat, by omega⟩
    have HG := Lib.hid (And.intro hg (And.intro h1 h2))
    clear hg h1 h2
    go_wp2_with fail
    refine (shar_any A m cap nn l _ H.out.1 (by rw [← H.out.1]; exact HG.out.2.1) (by omega) HG.out.2.2 H.out.2).mono ?_
    rintro e w2 ⟨g, c, p, rfl, _, _, _, _, _, _, hb⟩
    have HB := Lib.hid hb
    clear hb
    generalize hv : shV l nn = v
    have HV := Lib.hid hv
    clear hv
    go_wp2_with fail
    go_ret2
    exact .inr ⟨HG.out.1, by rw [Int.toNat_natCast, HV.out]; rfl, HB.out⟩

set_option maxHeartbeats 1600000 in
theorem split_any (A : Option Addr) (m cap : Nat) (n : Int) (l : List Int) (w : World) (hl : l.length = m) (hm : m ≤ 9223372036854775807) (hI : Ints w A l) :
    Calls Try.prog 26 #[.slice A m cap, .int .i64 n] w (SplitPost l n w) := by
  have H := Lib.hid (And.intro hl hI)
  clear hl hI
  go_enter Try.func26, Try.ntmps26
  go_wp2_with fail
  refine (one_any A m cap n l _ H.out.1 hm H.out.2).mono ?_
  rintro e w1 ⟨rfl, rfl⟩
  cases hg : goodL l n
  · have HG := Lib.hid hg
    clear hg
    go_wp2_with fail
    go_ret2
    exact .inl ⟨HG.out, rfl, Below.refl _ _⟩
  · obtain ⟨h1, h2, h3, h4⟩ := goodL_iff.1 hg
    obtain ⟨nn, rfl⟩ : ∃ nn : Nat, n = (nn : Int) := ⟨n.toNat, by omega⟩
    have HG := Lib.hid (And.intro hg (And.intro h1 h2))
    clear hg h1 h2
    go_wp2_with fail
    refine (shar_any A m cap nn l _ H.out.1 (by rw [← H.out.1]; exact HG.out.2.1) (by omega) HG.out.2.2 H.out.2).mono ?_
    rintro e w2 ⟨g, c, p, rfl, q1, q2, q3, q4, q5, q6, hb⟩
    have HB := Lib.hid (And.intro q1 (And.intro q2 (And.intro q3 (And.intro q4 (And.intro q5 (And.intro q6 hb))))))
    clear q1 q2 q3 q4 q5 q6 hb
    generalize hv : shV l nn = v
    generalize hll : l.length = ll
    have HV := Lib.hid (And.intro hv hll)
    clear hv hll
    go_wp2_with fail
    go_ret2
    obtain ⟨q1, q2, q3, q4, q5, q6, hb⟩ := HB.out
    exact .inr ⟨HG.out.1, g, c, p, by rw [HV.out.2]; rfl, q1, q2, q3, q4, q5, by rw [Int.toNat_natCast]; exact q6, hb⟩

/- The copies of arguments, read plainly. -/

theorem goodL_take (l : List Int) (n : Int) : goodL (l.take 9) n = goodL l n := by
  by_cases h : l.length ≤ 9
  · rw [List.take_of_length_le h]
  · unfold goodL
    rw [decide_eq_false (p := l.length ≤ 7) (by omega), decide_eq_false (p := (l.take 9).length ≤ 7) (by rw [List.length_take]; omega)]
    simp
theorem good_take {l : List Int} {n : Int} (h : goodL l n = true) : l.take 9 = l := List.take_of_length_le (by have := (goodL_iff.1 h).1; omega)

/- The walk of SplitRounds: Rounds and Cycles give the share of twice as many people, less one. -/

theorem settle_pos {V : List (List Int)} {n g : Nat} (f : Nat) : ∀ d : List Int, g ≤ d.length → (∀ k, k < g → 0 ≤ d.getD k 0) → ∀ k, k < g → 0 ≤ (settle V n f d).getD k 0 := by
  induction f with
  | zero => intro d _ h; exact h
  | succ f ih =>
    intro d hl h
    simp only [settle]
    split
    · exact h
    · refine ih _ (by rw [rotD_length]; exact hl) fun k hk => ?_
      rw [rotD_getD (by omega)]
      have := h k hk
      unfold rotP
      split
      · omega
      · exact this
theorem cyc_pos {V : List (List Int)} {n m : Nat} (g : Nat) (hg : g ≤ m) : ∀ k, k < g → 0 ≤ (cycTo V n m g).getD k 0 := by
  induction g with
  | zero => intro k hk; omega
  | succ g ih =>
    intro k hk
    have hl : (settle V n 3000 (cycTo V n m g)).length = m := by rw [settle_length, cycTo_length]
    rw [cycTo]
    by_cases e : g = k
    · subst e
      rw [List.getD_eq_getElem?_getD, List.getElem?_set_self (by omega)]
      simp only [Option.getD_some]; omega
    · rw [List.getD_eq_getElem?_getD, List.getElem?_set_ne e, ← List.getD_eq_getElem?_getD]
      exact settle_pos 3000 _ (by rw [cycTo_length]; omega) (ih (by omega)) k (by omega)
theorem cyc_full {V : List (List Int)} {n m : Nat} (hn : 1 ≤ n ∧ n ≤ 4) (hm : m ≤ 7) (hr : ∀ i, i < n → (rowV V i).length = m ∧ ∀ x ∈ rowV V i, 0 ≤ x ∧ x ≤ 100) : ∀ x ∈ cycTo V n m m, 0 ≤ x ∧ x < (n : Int) := by
  intro x hx
  rcases (cyc_ef1 hn hm hr m (Nat.le_refl _)).1.2 x hx with h | h
  · obtain ⟨k, hk, e⟩ := List.mem_iff_getElem.1 hx
    rw [cycTo_length] at hk
    have := cyc_pos (V := V) (n := n) m (Nat.le_refl _) k hk
    rw [List.getD_eq_getElem?_getD, List.getElem?_eq_getElem (by rw [cycTo_length]; exact hk), e] at this
    simp at this; omega
  · exact h

theorem divV_of {V : List (List Int)} {d : List Int} {n m : Nat} (hl : V.length = n) (hm : m = (rowV V 0).length) (hd : d.length = m) (hb : ∀ x ∈ d, 0 ≤ x ∧ x < (n : Int)) : divV V d = true := by
  unfold divV
  simp only [Bool.and_eq_true, decide_eq_true_eq, Bool.not_eq_true', List.any_eq_false]
  refine ⟨by omega, fun x hx => ?_⟩
  have := hb x hx
  unfold badD
  rw [decide_eq_false (by omega), decide_eq_false (by omega)]
  simp

set_option maxRecDepth 100000 in
set_option maxHeartbeats 3200000 in
theorem law_rounds (A : Option Addr) (n cap : Nat) (V : List (List Int)) (w : World)
    (hl : V.length = n) (_hc : n ≤ cap) (hm : cap ≤ 9223372036854775807) (hV : Mat w A V) (_hx : ∀ r ∈ V, ∀ x ∈ r, -9223372036854775808 ≤ x ∧ x ≤ 9223372036854775807) :
    Calls Try.prog 12 #[.slice A n cap] w fun e w' => e = .returned (.bool true) ∧ Below w.heap.size w w' := by
  have hn9 : n ≤ 9223372036854775807 := by omega
  have H := Lib.hid (And.intro hl hV)
  clear hl hV _hx
  go_enter Try.func12, Try.ntmps12
  go_wp2_with fail
  refine (few2_any A n cap V _ H.out.1 hn9 H.out.2).mono ?_
  rintro e w1 ⟨A1, q1, c1, rfl, hq, hq6, hqc, hc1, hM, hb⟩
  have H1 := Lib.hid (And.intro hq (And.intro hM hb))
  clear hq hM hb
  go_wp2_with fail
  refine (srounds_any A1 q1 c1 (fewV V) _ H1.out.1 (by omega) H1.out.2.1).mono ?_
  rintro e w2 h2
  unfold RndPost at h2
  rw [valV_few] at h2
  obtain ⟨gd, hgd⟩ : ∃ gd, gd = valV V := ⟨_, rfl⟩
  rw [← hgd] at h2
  obtain ⟨RA, rk, rc, ev, he, hres, hb2⟩ : ∃ RA rk rc ev, e = .returned (.tuple #[.slice RA rk rc, .int .i64 ev]) ∧ ((gd = false ∧ rk = 0 ∧ ev = 2) ∨ (gd = true ∧ ev = 0 ∧ rk = (rowV V 0).length ∧ Ints w2 RA (rndTo V n rk rk))) ∧ Below w1.heap.size w1 w2 := by
    rcases h2 with ⟨hg, rfl, hb⟩ | ⟨hg, g, rfl, hB, _, hb⟩
    · exact ⟨none, 0, 0, 2, rfl, .inl ⟨hg, rfl, rfl⟩, hb⟩
    · rw [hg] at hgd
      rw [fewV_ok hgd.symm, H.out.1] at hB
      exact ⟨_, _, _, 0, by rw [fewV_ok hgd.symm], .inr ⟨hg, rfl, rfl, blk_ints hB⟩, hb⟩
  subst he
  have H2 := Lib.hid (And.intro hgd (And.intro hres (H1.out.2.2.trans (hb2.mono H1.out.2.2.size))))
  clear h2 hgd hres hb2
  go_wp2_with fail
  refine (few2_any A n cap V _ H.out.1 hn9 (H.out.2.below H2.out.2.2)).mono ?_
  rintro e w3 ⟨A3, q3, c3, rfl, hq, hq63, hqc3, hc3, hM, hb⟩
  have H3 := Lib.hid (And.intro hq (And.intro hM (And.intro hb (H2.out.2.2.trans (hb.mono H2.out.2.2.size)))))
  clear hq hM hb
  go_wp2_with fail
  refine (scycles_any A3 q3 c3 (fewV V) _ H3.out.1 (by omega) H3.out.2.1).mono ?_
  rintro e w4 h4
  unfold CyclesPost at h4
  rw [valV_few, ← H2.out.1] at h4
  obtain ⟨CA, ck, cc, fv, he, hres, hb4⟩ : ∃ CA ck cc fv, e = .returned (.tuple #[.slice CA ck cc, .int .i64 fv]) ∧ ((gd = false ∧ ck = 0 ∧ fv = 2) ∨ (gd = true ∧ fv = 0 ∧ ck = (rowV V 0).length ∧ Ints w4 CA (cycTo V n ck ck))) ∧ Below w3.heap.size w3 w4 := by
    rcases h4 with ⟨hg, rfl, hb⟩ | ⟨hg, g, rfl, hB, _, hb⟩
    · exact ⟨none, 0, 0, 2, rfl, .inl ⟨hg, rfl, rfl⟩, hb⟩
    · have hgt := H2.out.1.symm.trans hg
      rw [fewV_ok hgt, H.out.1] at hB
      exact ⟨_, _, _, 0, by rw [fewV_ok hgt], .inr ⟨hg, rfl, rfl, blk_ints hB⟩, hb⟩
  subst he
  have H4 := Lib.hid (And.intro hres (And.intro (H3.out.2.2.1.trans (hb4.mono H3.out.2.2.1.size)) (H3.out.2.2.2.trans (hb4.mono H3.out.2.2.2.size))))
  clear h4 hres hb4
  rcases H2.out.2.1 with ⟨rfl, rfl, rfl⟩ | ⟨rfl, rfl, hrk, hRI⟩
  · obtain ⟨rfl, rfl⟩ : ck = 0 ∧ fv = 2 := by
      rcases H4.out.1 with ⟨_, h⟩ | ⟨h, _⟩
      · exact h
      · cases h
    go_wp2_with fail
    refine (awake2_any w w4 H4.out.2.2).mono ?_
    rintro e w6 ⟨rfl, hb6⟩
    have H6 := Lib.hid hb6
    clear hb6
    go_wp2_with fail
    go_ret
    exact ⟨rfl, H6.out⟩
  · obtain ⟨rfl, hck, hCI⟩ : fv = 0 ∧ ck = (rowV V 0).length ∧ Ints w4 CA (cycTo V n ck ck) := by
      rcases H4.out.1 with ⟨h, _⟩ | ⟨_, h⟩
      · cases h
      · exact h
    have hv : valV V = true := H2.out.1.symm
    have hv1 := valV_iff.1 hv
    have hn4 : 1 ≤ n ∧ n ≤ 4 := by rw [← H.out.1]; exact hv1.1
    have hm7 : 1 ≤ rk ∧ rk ≤ 7 := by rw [hrk]; exact hv1.2.1
    obtain rfl : ck = rk := by omega
    have hrows := valV_rows hv hrk
    rw [H.out.1] at hrows
    obtain ⟨p, hp⟩ : ∃ p, p = rndTo V n ck ck := ⟨_, rfl⟩
    obtain ⟨q, hq⟩ : ∃ q, q = cycTo V n ck ck := ⟨_, rfl⟩
    rw [← hp] at hRI
    rw [← hq] at hCI
    have hpl : p.length = ck := by rw [hp]; exact rndTo_length _ _ _ _
    have hql : q.length = ck := by rw [hq]; exact cycTo_length V n ck ck
    have hpd : ∀ x ∈ p, 0 ≤ x ∧ x < (n : Int) := by rw [hp]; exact rnd_division V (by omega)
    have hqd : ∀ x ∈ q, 0 ≤ x ∧ x < (n : Int) := by rw [hq]; exact cyc_full hn4 hm7.2 hrows
    have hps : ∀ i, i < n → shV (rowV V i) (2 * n - 1) ≤ wor V p i (i : Int) := fun i hi => ef1_share hn4.1 hpd hpl hrows hi (by rw [hp]; exact rnd_ef1 hn4.1 hrows)
    have hqs : ∀ i, i < n → shV (rowV V i) (2 * n - 1) ≤ wor V q i (i : Int) := fun i hi => ef1_share hn4.1 hqd hql hrows hi (by rw [hq]; exact (cyc_ef1 hn4 hm7.2 hrows ck (Nat.le_refl _)).2.2)
    have hpv := divV_of H.out.1 hrk hpl hpd
    have hqv := divV_of H.out.1 hrk hql hqd
    have HV := Lib.hid (And.intro hrk (And.intro hrows (And.intro (hRI.below H4.out.2.1) (And.intro hCI (And.intro hpl (And.intro hql (And.intro hps (And.intro hqs (And.intro hpv hqv)))))))))
    have hvv : valV V = true := hv
    clear hv hv1 hrk hck hRI hCI hp hq hpl hql hpd hqd hps hqs hrows hpv hqv
    go_wp2_with fail
    refine (r1valid_any A n cap V _ H.out.1 hn9 (H.out.2.below H4.out.2.2)).mono ?_
    rintro e w5 ⟨rfl, rfl⟩
    rw [hvv]
    clear hvv
    go_wp2_with fail
    refine (r1division_any A RA n cap ck rc ck V p _ H.out.1 (by omega) HV.out.1 (by omega) (H.out.2.below H4.out.2.2) HV.out.2.2.2.2.1 (by omega) HV.out.2.2.1).mono ?_
    rintro e w5 ⟨rfl, rfl⟩
    rw [HV.out.2.2.2.2.2.2.2.2.1]
    go_wp2_with fail
    refine (r1division_any A CA n cap ck cc ck V q _ H.out.1 (by omega) HV.out.1 (by omega) (H.out.2.below H4.out.2.2) HV.out.2.2.2.2.2.1 (by omega) HV.out.2.2.2.1).mono ?_
    rintro e w5 ⟨rfl, rfl⟩
    rw [HV.out.2.2.2.2.2.2.2.2.2]
    go_wp2_with fail
    go_loopw [54] (fun iv wr => ∃ k : Nat, k ≤ n ∧ iv = .int .i64 k ∧ Below w.heap.size w wr ∧ Below w4.heap.size w4 wr) (fun iv _ => n - (intOf iv).toNat)
    case atStart => exact ⟨0, Nat.zero_le _, rfl, H4.out.2.2, Below.refl _ _⟩
    case round =>
      obtain ⟨k, hk, rfl, hbw, hb4⟩ := hrel
      have HR := Lib.hid (And.intro hbw hb4)
      clear hbw hb4
      by_cases hlt : k < n
      · have hMat := H.out.2.below HR.out.1
        obtain ⟨ad0, rfl, _, hcc0⟩ := hMat.some_ (by have := H.out.1; omega)
        obtain ⟨A', c', h1, h2, h3, h4⟩ := hcc0 k _ (List.getElem?_eq_getElem (by have := H.out.1; omega))
        have er : rowV V k = V[k]'(by have := H.out.1; omega) := rowV_get (List.getElem?_eq_getElem (by have := H.out.1; omega))
        rw [← er] at h1 h2 h4
        have hrl := HV.out.2.1 k hlt
        rw [hrl.1] at h1 h2
        have HI := Lib.hid (And.intro h4 hrl)
        clear hMat hcc0 h4 er hrl
        go_wp2_with fail
        refine (lst_any A' ck c' (rowV V k) _ HI.out.2.1 h2 h3 HI.out.1).mono ?_
        rintro e w6 ⟨A6, k6, c6, rfl, hk6, hk69, hk6c, hc6, hI6, hb6⟩
        have H6 := Lib.hid (And.intro hk6 (And.intro hI6 (HR.out.1.trans (hb6.mono HR.out.1.size))))
        have H6b := Lib.hid (HR.out.2.trans (hb6.mono HR.out.2.size))
        clear hk6 hI6 hb6
        go_wp2_with fail
        have en : (2 * (n : Int) - 1) = ((2 * n - 1 : Nat) : Int) := by omega
        refine (share_any A6 k6 c6 _ ((rowV V k).take 9) _ H6.out.1 (by omega) H6.out.2.1).mono ?_
        rintro e w7 h7
        have hg : goodL (rowV V k) ((2 * n - 1 : Nat) : Int) = true := goodL_iff.2 ⟨by rw [HI.out.2.1]; exact hm7, HI.out.2.2, by omega⟩
        unfold SharePost at h7
        rw [goodL_take, en, hg] at h7
        obtain ⟨rfl, hb7⟩ : e = .returned (.tuple #[.int .i64 (shV (rowV V k) (2 * n - 1)), .int .i64 0]) ∧ Below w6.heap.size w6 w7 := by
          rcases h7 with ⟨h, _⟩ | ⟨_, h, hb⟩
          · cases h
          · rw [good_take hg, Int.toNat_natCast] at h
            exact ⟨h, hb⟩
        have s1 := HV.out.2.2.2.2.2.2.1 k hlt
        have s2 := HV.out.2.2.2.2.2.2.2.1 k hlt
        obtain ⟨sv, hsv⟩ : ∃ sv, sv = shV (rowV V k) (2 * n - 1) := ⟨_, rfl⟩
        rw [← hsv] at s1 s2 ⊢
        have H7 := Lib.hid (And.intro (H6.out.2.2.trans (hb7.mono H6.out.2.2.size)) (H6b.out.trans (hb7.mono H6b.out.size)))
        clear h7 hg hb7 hsv en
        go_wp2_with fail
        refine (lworth_any _ n cap RA ck rc k (k : Int) V p w7 H.out.1 (by omega) hlt HV.out.2.2.2.2.1 (by omega) HI.out.2.1 HI.out.2.2 (H.out.2.below H7.out.1) (HV.out.2.2.1.below H7.out.2)).mono ?_
        rintro e w8 ⟨rfl, rfl⟩
        go_wp2_with fail
        refine (lworth_any _ n cap CA ck cc k (k : Int) V q w7 H.out.1 (by omega) hlt HV.out.2.2.2.2.2.1 (by omega) HI.out.2.1 HI.out.2.2 (H.out.2.below H7.out.1) (HV.out.2.2.2.1.below H7.out.2)).mono ?_
        rintro e w8 ⟨rfl, rfl⟩
        go_wp2_with fail
        go_round
        case rel => exact ⟨k + 1, by omega, by go_num, H7.out.1, H7.out.2⟩
        case measure => simp [intOf]; omega
      · obtain rfl : n = k := by omega
        go_wp2_with fail
        refine (awake2_any w _ HR.out.1).mono ?_
        rintro e w10 ⟨rfl, hb10⟩
        have H10 := Lib.hid hb10
        clear hb10
        go_wp2_with fail
        go_ret
        exact ⟨rfl, H10.out⟩
end Go.Proofs.Ytkljambjdiblkaa
