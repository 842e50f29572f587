/- Laws and contracts that the proof of SplitOne uses, part 5. -/
import Derived.Test.YtkljambjdiblkaaSplitOneM4
import Derived.Test.YtkljambjdiblkaaSplitOneM1
import Derived.Laws.EntriesVeiled
import Derived.Test.YtkljambjdiblkaaSplitOneM2
import Derived.Test.YtkljambjdiblkaaSplitOneM3
namespace Go.Proofs.Ytkljambjdiblkaa
open Go.RowKit

/- Contracts: share, Share and Split of package split. -/

/-- What share leaves. -/
def SharPost (l : List Int) (n : Nat) (w : World) (e : Ending) (w' : World) : Prop :=
  ∃ (g c : Nat) (p : List Int), e = .returned (.tuple #[.int .i64 (shV l n), .slice (some ⟨g, 0, none⟩) l.length c]) ∧ l.length ≤ c ∧ c ≤ 9223372036854775807 ∧ p.length = l.length ∧ (∀ x ∈ p, 0 ≤ x ∧ x < n) ∧ Ints w' (some ⟨g, 0, none⟩) p ∧ lmin (sumsTo l p n l.length) = shV l n ∧ Below w.heap.size w w'

set_option maxRecDepth 100000 in
set_option maxHeartbeats 3200000 in
theorem shar_any (A : Option Addr) (m cap n : Nat) (l : List Int) (w : World) (hl : l.length = m) (hm : 1 ≤ m ∧ m ≤ 7) (hn : 1 ≤ n ∧ n ≤ 7) (hlb : ∀ x ∈ l, 0 ≤ x ∧ x ≤ 100) (hI : Ints w A l) :
    Calls Try.prog 58 #[.slice A m cap, .int .i64 n] w (SharPost l n w) := by
  obtain ⟨ad, rfl, _⟩ := hI.some_ (by omega)
  obtain ⟨X, hX⟩ : ∃ X : SX, X = { w0 := w, ad := ad, B := w.heap.size, m := m, n := n, cap := cap, l := l } := ⟨_, rfl⟩
  have hok : X.ok := by rw [hX]; exact ⟨rfl, hm, hn, hl, hlb, hI⟩
  have hmk := make_div m (by omega)
  have hmk2 := make_ints n (by omega)
  have e1 : X.B = w.heap.size := by rw [hX]
  have e2 : X.m = m := by rw [hX]
  have e3 : X.n = n := by rw [hX]
  have e4 : X.l = l := by rw [hX]
  have e5 : X.cap = cap := by rw [hX]
  have e6 : X.ad = ad := by rw [hX]
  have e7 : X.w0 = w := by rw [hX]
  have hcall : ∀ W : World, X.st (List.replicate m 0) (List.replicate n 0) (-1) W → Calls Try.prog 92 #[.int .i64 0, .int .i64 0, .pointer (some ⟨w.heap.size, 0, none⟩), .pointer (some ⟨w.heap.size + 1 + 1 + 1 + 1 + 1 + 1 + 1, 0, none⟩), .pointer (some ⟨w.heap.size + 1 + 1, 0, none⟩), .pointer (some ⟨w.heap.size + 1 + 1 + 1 + 1 + 1, 0, none⟩), .pointer (some ⟨w.heap.size + 1 + 1 + 1, 0, none⟩), .pointer (some ⟨w.heap.size + 1, 0, none⟩), .pointer (some ⟨w.heap.size + 1 + 1 + 1 + 1 + 1 + 1 + 1 + 1, 0, none⟩)] W (X.post 0 0 (List.replicate m 0) (List.replicate n 0) (-1)) := by
    intro W hW
    have h := try_any X hok m 0 0 (List.replicate m 0) (List.replicate n 0) (-1) W (by omega) (by omega) hW (by rw [e3]; rfl) (fun i hi => by omega)
    rw [e1] at h
    exact h
  have hst : ∀ F : Value, F = .func (.func 92) #[] X.caps → X.st (List.replicate m 0) (List.replicate n 0) (-1) (((((((((w.alloc (.cells #[.slice (some ad) m cap] 23)).alloc (.cells #[.int .i64 n] 3)).alloc (.cells #[.int .i64 (-1)] 3)).alloc (.cells #[.slice none 0 0] 64)).alloc (.cells (arr (List.replicate m 0)) 3)).alloc
      (.cells #[.slice (some ⟨w.heap.size + 1 + 1 + 1 + 1, 0, none⟩) m m] 64)).alloc (.cells (arr (List.replicate n 0)) 3)).alloc (.cells #[.slice (some ⟨w.heap.size + 1 + 1 + 1 + 1 + 1 + 1, 0, none⟩) n n] 23)).alloc (.cells #[F] 95)) := by
    intro F hF
    subst hF
    refine ⟨?_, ?_, ?_, ?_, ?_, ?_, ?_, ?_, ⟨.slice none 0 0, ?_, .inl ⟨rfl, rfl⟩⟩, ?_, by rw [List.length_replicate, e2], by rw [List.length_replicate, e3], by omega⟩
    · rw [e1, e2, e5, e6]; exact ((((((((Blk.new _ _ _ rfl).alloc _).alloc _).alloc _).alloc _).alloc _).alloc _).alloc _).alloc _
    · rw [e1, e3]; exact (((((((Blk.new _ _ _ (by simp)).alloc _).alloc _).alloc _).alloc _).alloc _).alloc _).alloc _
    · rw [e1]; exact ((((((Blk.new _ _ _ (by simp)).alloc _).alloc _).alloc _).alloc _).alloc _).alloc _
    · rw [e1]; exact ((((Blk.new _ _ _ (by simp)).alloc _).alloc _).alloc _).alloc _
    · rw [e1, e2]; exact (((Blk.new _ _ _ (by simp)).alloc _).alloc _).alloc _
    · rw [e1]; exact ((Blk.new _ _ _ (by simp)).alloc _).alloc _
    · rw [e1, e3]; exact (Blk.new _ _ _ (by simp)).alloc _
    · rw [e1]; exact Blk.new _ _ _ (by simp)
    · rw [e1]; exact (((((Blk.new _ _ _ (by simp)).alloc _).alloc _).alloc _).alloc _).alloc _
    · rw [e1, e7]
      exact (((((((((Below.refl _ _).alloc (Nat.le_refl _) _).alloc (by go_size) _).alloc (by go_size) _).alloc (by go_size) _).alloc (by go_size) _).alloc (by go_size) _).alloc (by go_size) _).alloc (by go_size) _).alloc (by go_size) _
  have hcaps : Value.func (.func 92) #[] #[.pointer (some ⟨w.heap.size, 0, none⟩), .pointer (some ⟨w.heap.size + 1 + 1 + 1 + 1 + 1 + 1 + 1, 0, none⟩), .pointer (some ⟨w.heap.size + 1 + 1, 0, none⟩), .pointer (some ⟨w.heap.size + 1 + 1 + 1 + 1 + 1, 0, none⟩), .pointer (some ⟨w.heap.size + 1 + 1 + 1, 0, none⟩), .pointer (some ⟨w.heap.size + 1, 0, none⟩), .pointer (some ⟨w.heap.size + 1 + 1 + 1 + 1 + 1 + 1 + 1 + 1, 0, none⟩)] = .func (.func 92) #[] X.caps := by
    unfold SX.caps; rw [e1]
  have hshv : max (-1) (sh (X.l.drop 0) (List.replicate n 0) 0) = shV l n := by
    have h := shV_nonneg (l := l) (n := n) hn.1 (fun x hx => (hlb x hx).1)
    rw [e4, List.drop_zero]
    exact Int.max_eq_right (by unfold shV at h; omega)
  have hv0 := shV_nonneg (l := l) (n := n) hn.1 (fun x hx => (hlb x hx).1)
  have H := Lib.hid (And.intro hcall (And.intro (hst _ hcaps) (And.intro hl (And.intro e1 (And.intro e2 (And.intro e3 (And.intro e4 (And.intro e7 (And.intro hshv hv0)))))))))
  clear hX hok hl hlb hI e1 e2 e3 e4 e5 e6 e7 hcall hst hshv hv0 hcaps
  go_enter Try.func58, Try.ntmps58
  go_wp2_with fail
  refine (H.out.1 _ H.out.2.1).mono ?_
  rintro e w1 ⟨rfl, dl, _, hst⟩
  obtain ⟨_, _, hl, e1, e2, e3, e4, e7, hshv, hv0⟩ := H.out
  rw [hshv] at hst
  have hb := hst.bb
  obtain ⟨pv, hp, hf⟩ := hst.fnd
  obtain ⟨v, hv⟩ : ∃ v, v = shV l n := ⟨_, rfl⟩
  rw [← hv] at hb hf hv0
  have hbel := hst.bel
  rcases hf with ⟨hf, _⟩ | ⟨g, c, p, h1, rfl, h3, h4, h5, h6, h7, h8, h9⟩
  · omega
  · rw [e2] at h3 h6
    rw [e2] at hp
    rw [e1] at hb hp h5 hbel
    rw [e3] at h7
    rw [e4, e3, e2] at h9
    rw [e7] at hbel
    obtain ⟨a1, b1⟩ := hb.at1
    obtain ⟨a2, b2⟩ := hp.at1
    have HF := Lib.hid (And.intro hb (And.intro hp (And.intro h6 (And.intro h7 (And.intro h8 (And.intro h9 (And.intro hbel (And.intro hv hl))))))))
    clear hl e1 e2 e3 e4 e7 hshv hst hb hp hbel h6 h7 h8 h9 hv
    go_wp2_with fail
    go_region
    have a3 : (((w1.setCell ⟨w.heap.size + 1 + 1, 0, none⟩ (.int .i64 v)).setCell ⟨w.heap.size + 1 + 1 + 1, 0, none⟩ (.slice (some ⟨g, 0, none⟩) m c)).drew).cell? ⟨w.heap.size + 1 + 1, 0, none⟩ = some (.int .i64 v) := ((HF.out.1.set_ 0 _).far (by show w.heap.size + 2 ≠ w.heap.size + 1 + 1 + 1; omega) _).at1.1
    have a4 : (((w1.setCell ⟨w.heap.size + 1 + 1, 0, none⟩ (.int .i64 v)).setCell ⟨w.heap.size + 1 + 1 + 1, 0, none⟩ (.slice (some ⟨g, 0, none⟩) m c)).drew).cell? ⟨w.heap.size + 1 + 1 + 1, 0, none⟩ = some (.slice (some ⟨g, 0, none⟩) m c) := ((HF.out.2.1.far (by show w.heap.size + 3 ≠ w.heap.size + 1 + 1; omega) _).set_ 0 _).at1.1
    have hI : Ints (((w1.setCell ⟨w.heap.size + 1 + 1, 0, none⟩ (.int .i64 v)).setCell ⟨w.heap.size + 1 + 1 + 1, 0, none⟩ (.slice (some ⟨g, 0, none⟩) m c)).drew) (some ⟨g, 0, none⟩) p := ints_far (ints_far HF.out.2.2.2.2.1 (fun ad ha => by injection ha with ha; subst ha; show g ≠ w.heap.size + 1 + 1; omega) _) (fun ad ha => by injection ha with ha; subst ha; show g ≠ w.heap.size + 1 + 1 + 1; omega) _
    have hB : Below w.heap.size w (((w1.setCell ⟨w.heap.size + 1 + 1, 0, none⟩ (.int .i64 v)).setCell ⟨w.heap.size + 1 + 1 + 1, 0, none⟩ (.slice (some ⟨g, 0, none⟩) m c)).drew) := ((HF.out.2.2.2.2.2.2.1.setCell (by show w.heap.size ≤ w.heap.size + 1 + 1; omega) _).setCell (by show w.heap.size ≤ w.heap.size + 1 + 1 + 1; omega) _).drew
    generalize (((w1.setCell ⟨w.heap.size + 1 + 1, 0, none⟩ (.int .i64 v)).setCell ⟨w.heap.size + 1 + 1 + 1, 0, none⟩ (.slice (some ⟨g, 0, none⟩) m c)).drew) = w2 at a3 a4 hI hB ⊢
    have HG := Lib.hid (And.intro hI hB)
    clear hI hB a1 b1 a2 b2
    go_wp2_with fail
    refine bodyPost_ret (v := .tuple #[.int .i64 v, .slice (some ⟨g, 0, none⟩) m c]) (by simp [results, Try.results58, go_sem, a3, a4]) rfl ?_
    refine ⟨g, c, p, ?_, ?_, h4, ?_, HF.out.2.2.2.1, HG.out.1, ?_, HG.out.2⟩
    · rw [HF.out.2.2.2.2.2.2.2.2, ← HF.out.2.2.2.2.2.2.2.1]
    · rw [HF.out.2.2.2.2.2.2.2.2]; exact h3
    · rw [HF.out.2.2.2.2.2.2.2.2]; exact HF.out.2.2.1
    · rw [HF.out.2.2.2.2.2.2.2.2, HF.out.2.2.2.2.2.1]; exact HF.out.2.2.2.2.2.2.2.1

theorem goodL_iff {l : List Int} {n : Int} : goodL l n = true ↔ (1 ≤ l.length ∧ l.length ≤ 7) ∧ (∀ x ∈ l, 0 ≤ x ∧ x ≤ 100) ∧ 1 ≤ n ∧ n ≤ 7 := by
  unfold goodL
  simp only [Bool.and_eq_true, decide_eq_true_eq, List.all_eq_true, in100]
  constructor
  · rintro ⟨⟨⟨⟨a, b⟩, c⟩, d⟩, e⟩; exact ⟨⟨a, b⟩, c, d, e⟩
  · rintro ⟨⟨a, b⟩, c, d, e⟩; exact ⟨⟨⟨⟨a, b⟩, c⟩, d⟩, e⟩

/-- What Share leaves. -/
def SharePost (l : List Int) (n : Int) (w : World) (e : Ending) (w' : World) : Prop :=
  (goodL l n = false ∧ e = .returned (.tuple #[.int .i64 0, .int .i64 2]) ∧ Below w.heap.size w w') ∨
  (goodL l n = true ∧ e = .returned (.tuple #[.int .i64 (shV l n.toNat), .int .i64 0]) ∧ Below w.heap.size w w')
/-- What Split leaves. -/
def SplitPost (l : List Int) (n : Int) (w : World) (e : Ending) (w' : World) : Prop :=
  (goodL l n = false ∧ e = .returned (.tuple #[.slice none 0 0, .int .i64 2]) ∧ Below w.heap.size w w') ∨
  (goodL l n = true ∧ ∃ (g c : Nat) (p : List Int), e = .returned (.tuple #[.slice (some ⟨g, 0, none⟩) l.length c, .int .i64 0]) ∧ l.length ≤ c ∧ c ≤ 9223372036854775807 ∧ p.length = l.length ∧ (∀ x ∈ p, 0 ≤ x ∧ x < n) ∧ Ints w' (some ⟨g, 0, none⟩) p ∧ lmin (sumsTo l p n.toNat l.length) = shV l n.toNat ∧ Below w.heap.size w w')

set_option maxHeartbeats 1600000 in
theorem share_any (A : Option Addr) (m cap : Nat) (n : Int) (l : List Int) (w : World) (hl : l.length = m) (hm : m ≤ 9223372036854775807) (hI : Ints w A l) :
    Calls Try.prog 25 #[.slice A m cap, .int .i64 n] w (SharePost l n w) := by
  have H := Lib.hid (And.intro hl hI)
  clear hl hI
  go_enter Try.func25, Try.ntmps25
  go_wp2_with fail
  refine (one_any A m cap n l _ H.out.1 hm H.out.2).mono ?_
  rintro e w1 ⟨rfl, rfl⟩
  cases hg : goodL l n
  · have HG := Lib.hid hg
    clear hg
    go_wp2_with fail
    go_ret2
    exact .inl ⟨HG.out, rfl, Below.refl _ _⟩
  · obtain ⟨h1, h2, h3, h4⟩ := goodL_iff.1 hg
    obtain ⟨nn, rfl⟩ : ∃ nn : Nat, n = (nn : Int) := ⟨n.toNat, by omega⟩
    have HG := Lib.hid (And.intro hg (And.intro h1 h2))
    clear hg h1 h2
    go_wp2_with fail
    refine (shar_any A m cap nn l _ H.out.1 (by rw [← H.out.1]; exact HG.out.2.1) (by omega) HG.out.2.2 H.out.2).mono ?_
    rintro e w2 ⟨g, c, p, rfl, _, _, _, _, _, _, hb⟩
    have HB := Lib.hid hb
    clear hb
    generalize hv : shV l nn = v
    have HV := Lib.hid hv
    clear hv
    go_wp2_with fail
    go_ret2
    exact .inr ⟨HG.out.1, by rw [Int.toNat_natCast, HV.out]; rfl, HB.out⟩

set_option maxHeartbeats 1600000 in
theorem split_any (A : Option Addr) (m cap : Nat) (n : Int) (l : List Int) (w : World) (hl : l.length = m) (hm : m ≤ 9223372036854775807) (hI : Ints w A l) :
    Calls Try.prog 26 #[.slice A m cap, .int .i64 n] w (SplitPost l n w) := by
  have H := Lib.hid (And.intro hl hI)
  clear hl hI
  go_enter Try.func26, Try.ntmps26
  go_wp2_with fail
  refine (one_any A m cap n l _ H.out.1 hm H.out.2).mono ?_
  rintro e w1 ⟨rfl, rfl⟩
  cases hg : goodL l n
  · have HG := Lib.hid hg
    clear hg
    go_wp2_with fail
    go_ret2
    exact .inl ⟨HG.out, rfl, Below.refl _ _⟩
  · obtain ⟨h1, h2, h3, h4⟩ := goodL_iff.1 hg
    obtain ⟨nn, rfl⟩ : ∃ nn : Nat, n = (nn : Int) := ⟨n.toNat, by omega⟩
    have HG := Lib.hid (And.intro hg (And.intro h1 h2))
    clear hg h1 h2
    go_wp2_with fail
    refine (shar_any A m cap nn l _ H.out.1 (by rw [← H.out.1]; exact HG.out.2.1) (by omega) HG.out.2.2 H.out.2).mono ?_
    rintro e w2 ⟨g, c, p, rfl, q1, q2, q3, q4, q5, q6, hb⟩
    have HB := Lib.hid (And.intro q1 (And.intro q2 (And.intro q3 (And.intro q4 (And.intro q5 (And.intro q6 hb))))))
    clear q1 q2 q3 q4 q5 q6 hb
    generalize hv : shV l nn = v
    generalize hll : l.length = ll
    have HV := Lib.hid (And.intro hv hll)
    clear hv hll
    go_wp2_with fail
    go_ret2
    obtain ⟨q1, q2, q3, q4, q5, q6, hb⟩ := HB.out
    exact .inr ⟨HG.out.1, g, c, p, by rw [HV.out.2]; rfl, q1, q2, q3, q4, q5, by rw [Int.toNat_natCast]; exact q6, hb⟩

/- The copies of arguments, read plainly. -/

theorem goodL_take (l : List Int) (n : Int) : goodL (l.take 9) n = goodL l n := by
  by_cases h : l.length ≤ 9
  · rw [List.take_of_length_le h]
  · unfold goodL
    rw [decide_eq_false (p := l.length ≤ 7) (by omega), decide_eq_false (p := (l.take 9).length ≤ 7) (by rw [List.length_take]; omega)]
    simp
theorem good_take {l : List Int} {n : Int} (h : goodL l n = true) : l.take 9 = l := List.take_of_length_le (by have := (goodL_iff.1 h).1; omega)

/- The walk of SplitRounds: Rounds and Cycles give the share of twice as many people, less one. -/

theorem settle_pos {V : List (List Int)} {n g : Nat} (f : Nat) : ∀ d : List Int, g ≤ d.length → (∀ k, k < g → 0 ≤ d.getD k 0) → ∀ k, k < g → 0 ≤ (settle V n f d).getD k 0 := by
  induction f with
  | zero => intro d _ h; exact h
  | succ f ih =>
    intro d hl h
    simp only [settle]
    split
    · exact h
    · refine ih _ (by rw [rotD_length]; exact hl) fun k hk => ?_
      rw [rotD_getD (by omega)]
      have := h k hk
      unfold rotP
      split
      · omega
      · exact this
theorem cyc_pos {V : List (List Int)} {n m : Nat} (g : Nat) (hg : g ≤ m) : ∀ k, k < g → 0 ≤ (cycTo V n m g).getD k 0 := by
  induction g with
  | zero => intro k hk; omega
  | succ g ih =>
    intro k hk
    have hl : (settle V n 3000 (cycTo V n m g)).length = m := by rw [settle_length, cycTo_length]
    rw [cycTo]
    by_cases e : g = k
    · subst e
      rw [List.getD_eq_getElem?_getD, List.getElem?_set_self (by omega)]
      simp only [Option.getD_some]; omega
    · rw [List.getD_eq_getElem?_getD, List.getElem?_set_ne e, ← List.getD_eq_getElem?_getD]
      exact settle_pos 3000 _ (by rw [cycTo_length]; omega) (ih (by omega)) k (by omega)
theorem cyc_full {V : List (List Int)} {n m : Nat} (hn : 1 ≤ n ∧ n ≤ 4) (hm : m ≤ 7) (hr : ∀ i, i < n → (rowV V i).length = m ∧ ∀ x ∈ rowV V i, 0 ≤ x ∧ x ≤ 100) : ∀ x ∈ cycTo V n m m, 0 ≤ x ∧ x < (n : Int) := by
  intro x hx
  rcases (cyc_ef1 hn hm hr m (Nat.le_refl _)).1.2 x hx with h | h
  · obtain ⟨k, hk, e⟩ := List.mem_iff_getElem.1 hx
    rw [cycTo_length] at hk
    have := cyc_pos (V := V) (n := n) m (Nat.le_refl _) k hk
    rw [List.getD_eq_getElem?_getD, List.getElem?_eq_getElem (by rw [cycTo_length]; exact hk), e] at this
    simp at this; omega
  · exact h

theorem divV_of {V : List (List Int)} {d : List Int} {n m : Nat} (hl : V.length = n) (hm : m = (rowV V 0).length) (hd : d.length = m) (hb : ∀ x ∈ d, 0 ≤ x ∧ x < (n : Int)) : divV V d = true := by
  unfold divV
  simp only [Bool.and_eq_true, decide_eq_true_eq, Bool.not_eq_true', List.any_eq_false]
  refine ⟨by omega, fun x hx => ?_⟩
  have := hb x hx
  unfold badD
  rw [decide_eq_false (by omega), decide_eq_false (by omega)]
  simp

set_option maxRecDepth 100000 in
set_option maxHeartbeats 3200000 in
theorem law_rounds (A : Option Addr) (n cap : Nat) (V : List (List Int)) (w : World)
    (hl : V.length = n) (_hc : n ≤ cap) (hm : cap ≤ 9223372036854775807) (hV : Mat w A V) (_hx : ∀ r ∈ V, ∀ x ∈ r, -9223372036854775808 ≤ x ∧ x ≤ 9223372036854775807) :
    Calls Try.prog 12 #[.slice A n cap] w fun e w' => e = .returned (.bool true) ∧ Below w.heap.size w w' := by
  have hn9 : n ≤ 9223372036854775807 := by omega
  have H := Lib.hid (And.intro hl hV)
  clear hl hV _hx
  go_enter Try.func12, Try.ntmps12
  go_wp2_with fail
  refine (few2_any A n cap V _ H.out.1 hn9 H.out.2).mono ?_
  rintro e w1 ⟨A1, q1, c1, rfl, hq, hq6, hqc, hc1, hM, hb⟩
  have H1 := Lib.hid (And.intro hq (And.intro hM hb))
  clear hq hM hb
  go_wp2_with fail
  refine (srounds_any A1 q1 c1 (fewV V) _ H1.out.1 (by omega) H1.out.2.1).mono ?_
  rintro e w2 h2
  unfold RndPost at h2
  rw [valV_few] at h2
  obtain ⟨gd, hgd⟩ : ∃ gd, gd = valV V := ⟨_, rfl⟩
  rw [← hgd] at h2
  obtain ⟨RA, rk, rc, ev, he, hres, hb2⟩ : ∃ RA rk rc ev, e = .returned (.tuple #[.slice RA rk rc, .int .i64 ev]) ∧ ((gd = false ∧ rk = 0 ∧ ev = 2) ∨ (gd = true ∧ ev = 0 ∧ rk = (rowV V 0).length ∧ Ints w2 RA (rndTo V n rk rk))) ∧ Below w1.heap.size w1 w2 := by
    rcases h2 with ⟨hg, rfl, hb⟩ | ⟨hg, g, rfl, hB, _, hb⟩
    · exact ⟨none, 0, 0, 2, rfl, .inl ⟨hg, rfl, rfl⟩, hb⟩
    · rw [hg] at hgd
      rw [fewV_ok hgd.symm, H.out.1] at hB
      exact ⟨_, _, _, 0, by rw [fewV_ok hgd.symm], .inr ⟨hg, rfl, rfl, blk_ints hB⟩, hb⟩
  subst he
  have H2 := Lib.hid (And.intro hgd (And.intro hres (H1.out.2.2.trans (hb2.mono H1.out.2.2.size))))
  clear h2 hgd hres hb2
  go_wp2_with fail
  refine (few2_any A n cap V _ H.out.1 hn9 (H.out.2.below H2.out.2.2)).mono ?_
  rintro e w3 ⟨A3, q3, c3, rfl, hq, hq63, hqc3, hc3, hM, hb⟩
  have H3 := Lib.hid (And.intro hq (And.intro hM (And.intro hb (H2.out.2.2.trans (hb.mono H2.out.2.2.size)))))
  clear hq hM hb
  go_wp2_with fail
  refine (scycles_any A3 q3 c3 (fewV V) _ H3.out.1 (by omega) H3.out.2.1).mono ?_
  rintro e w4 h4
  unfold CyclesPost at h4
  rw [valV_few, ← H2.out.1] at h4
  obtain ⟨CA, ck, cc, fv, he, hres, hb4⟩ : ∃ CA ck cc fv, e = .returned (.tuple #[.slice CA ck cc, .int .i64 fv]) ∧ ((gd = false ∧ ck = 0 ∧ fv = 2) ∨ (gd = true ∧ fv = 0 ∧ ck = (rowV V 0).length ∧ Ints w4 CA (cycTo V n ck ck))) ∧ Below w3.heap.size w3 w4 := by
    rcases h4 with ⟨hg, rfl, hb⟩ | ⟨hg, g, rfl, hB, _, hb⟩
    · exact ⟨none, 0, 0, 2, rfl, .inl ⟨hg, rfl, rfl⟩, hb⟩
    · have hgt := H2.out.1.symm.trans hg
      rw [fewV_ok hgt, H.out.1] at hB
      exact ⟨_, _, _, 0, by rw [fewV_ok hgt], .inr ⟨hg, rfl, rfl, blk_ints hB⟩, hb⟩
  subst he
  have H4 := Lib.hid (And.intro hres (And.intro (H3.out.2.2.1.trans (hb4.mono H3.out.2.2.1.size)) (H3.out.2.2.2.trans (hb4.mono H3.out.2.2.2.size))))
  clear h4 hres hb4
  rcases H2.out.2.1 with ⟨rfl, rfl, rfl⟩ | ⟨rfl, rfl, hrk, hRI⟩
  · obtain ⟨rfl, rfl⟩ : ck = 0 ∧ fv = 2 := by
      rcases H4.out.1 with ⟨_, h⟩ | ⟨h, _⟩
      · exact h
      · cases h
    go_wp2_with fail
    refine (awake2_any w w4 H4.out.2.2).mono ?_
    rintro e w6 ⟨rfl, hb6⟩
    have H6 := Lib.hid hb6
    clear hb6
    go_wp2_with fail
    go_ret
    exact ⟨rfl, H6.out⟩
  · obtain ⟨rfl, hck, hCI⟩ : fv = 0 ∧ ck = (rowV V 0).length ∧ Ints w4 CA (cycTo V n ck ck) := by
      rcases H4.out.1 with ⟨h, _⟩ | ⟨_, h⟩
      · cases h
      · exact h
    have hv : valV V = true := H2.out.1.symm
    have hv1 := valV_iff.1 hv
    have hn4 : 1 ≤ n ∧ n ≤ 4 := by rw [← H.out.1]; exact hv1.1
    have hm7 : 1 ≤ rk ∧ rk ≤ 7 := by rw [hrk]; exact hv1.2.1
    obtain rfl : ck = rk := by omega
    have hrows := valV_rows hv hrk
    rw [H.out.1] at hrows
    obtain ⟨p, hp⟩ : ∃ p, p = rndTo V n ck ck := ⟨_, rfl⟩
    obtain ⟨q, hq⟩ : ∃ q, q = cycTo V n ck ck := ⟨_, rfl⟩
    rw [← hp] at hRI
    rw [← hq] at hCI
    have hpl : p.length = ck := by rw [hp]; exact rndTo_length _ _ _ _
    have hql : q.length = ck := by rw [hq]; exact cycTo_length V n ck ck
    have hpd : ∀ x ∈ p, 0 ≤ x ∧ x < (n : Int) := by rw [hp]; exact rnd_division V (by omega)
    have hqd : ∀ x ∈ q, 0 ≤ x ∧ x < (n : Int) := by rw [hq]; exact cyc_full hn4 hm7.2 hrows
    have hps : ∀ i, i < n → shV (rowV V i) (2 * n - 1) ≤ wor V p i (i : Int) := fun i hi => ef1_share hn4.1 hpd hpl hrows hi (by rw [hp]; exact rnd_ef1 hn4.1 hrows)
    have hqs : ∀ i, i < n → shV (rowV V i) (2 * n - 1) ≤ wor V q i (i : Int) := fun i hi => ef1_share hn4.1 hqd hql hrows hi (by rw [hq]; exact (cyc_ef1 hn4 hm7.2 hrows ck (Nat.le_refl _)).2.2)
    have hpv := divV_of H.out.1 hrk hpl hpd
    have hqv := divV_of H.out.1 hrk hql hqd
    have HV := Lib.hid (And.intro hrk (And.intro hrows (And.intro (hRI.below H4.out.2.1) (And.intro hCI (And.intro hpl (And.intro hql (And.intro hps (And.intro hqs (And.intro hpv hqv)))))))))
    have hvv : valV V = true := hv
    clear hv hv1 hrk hck hRI hCI hp hq hpl hql hpd hqd hps hqs hrows hpv hqv
    go_wp2_with fail
    refine (r1valid_any A n cap V _ H.out.1 hn9 (H.out.2.below H4.out.2.2)).mono ?_
    rintro e w5 ⟨rfl, rfl⟩
    rw [hvv]
    clear hvv
    go_wp2_with fail
    refine (r1division_any A RA n cap ck rc ck V p _ H.out.1 (by omega) HV.out.1 (by omega) (H.out.2.below H4.out.2.2) HV.out.2.2.2.2.1 (by omega) HV.out.2.2.1).mono ?_
    rintro e w5 ⟨rfl, rfl⟩
    rw [HV.out.2.2.2.2.2.2.2.2.1]
    go_wp2_with fail
    refine (r1division_any A CA n cap ck cc ck V q _ H.out.1 (by omega) HV.out.1 (by omega) (H.out.2.below H4.out.2.2) HV.out.2.2.2.2.2.1 (by omega) HV.out.2.2.2.1).mono ?_
    rintro e w5 ⟨rfl, rfl⟩
    rw [HV.out.2.2.2.2.2.2.2.2.2]
    go_wp2_with fail
    go_loopw [54] (fun iv wr => ∃ k : Nat, k ≤ n ∧ iv = .int .i64 k ∧ Below w.heap.size w wr ∧ Below w4.heap.size w4 wr) (fun iv _ => n - (intOf iv).toNat)
    case atStart => exact ⟨0, Nat.zero_le _, rfl, H4.out.2.2, Below.refl _ _⟩
    case round =>
      obtain ⟨k, hk, rfl, hbw, hb4⟩ := hrel
      have HR := Lib.hid (And.intro hbw hb4)
      clear hbw hb4
      by_cases hlt : k < n
      · have hMat := H.out.2.below HR.out.1
        obtain ⟨ad0, rfl, _, hcc0⟩ := hMat.some_ (by have := H.out.1; omega)
        obtain ⟨A', c', h1, h2, h3, h4⟩ := hcc0 k _ (List.getElem?_eq_getElem (by have := H.out.1; omega))
        have er : rowV V k = V[k]'(by have := H.out.1; omega) := rowV_get (List.getElem?_eq_getElem (by have := H.out.1; omega))
        rw [← er] at h1 h2 h4
        have hrl := HV.out.2.1 k hlt
        rw [hrl.1] at h1 h2
        have HI := Lib.hid (And.intro h4 hrl)
        clear hMat hcc0 h4 er hrl
        go_wp2_with fail
        refine (lst_any A' ck c' (rowV V k) _ HI.out.2.1 h2 h3 HI.out.1).mono ?_
        rintro e w6 ⟨A6, k6, c6, rfl, hk6, hk69, hk6c, hc6, hI6, hb6⟩
        have H6 := Lib.hid (And.intro hk6 (And.intro hI6 (HR.out.1.trans (hb6.mono HR.out.1.size))))
        have H6b := Lib.hid (HR.out.2.trans (hb6.mono HR.out.2.size))
        clear hk6 hI6 hb6
        go_wp2_with fail
        have en : (2 * (n : Int) - 1) = ((2 * n - 1 : Nat) : Int) := by omega
        refine (share_any A6 k6 c6 _ ((rowV V k).take 9) _ H6.out.1 (by omega) H6.out.2.1).mono ?_
        rintro e w7 h7
        have hg : goodL (rowV V k) ((2 * n - 1 : Nat) : Int) = true := goodL_iff.2 ⟨by rw [HI.out.2.1]; exact hm7, HI.out.2.2, by omega⟩
        unfold SharePost at h7
        rw [goodL_take, en, hg] at h7
        obtain ⟨rfl, hb7⟩ : e = .returned (.tuple #[.int .i64 (shV (rowV V k) (2 * n - 1)), .int .i64 0]) ∧ Below w6.heap.size w6 w7 := by
          rcases h7 with ⟨h, _⟩ | ⟨_, h, hb⟩
          · cases h
          · rw [good_take hg, Int.toNat_natCast] at h
            exact ⟨h, hb⟩
        have s1 := HV.out.2.2.2.2.2.2.1 k hlt
        have s2 := HV.out.2.2.2.2.2.2.2.1 k hlt
        obtain ⟨sv, hsv⟩ : ∃ sv, sv = shV (rowV V k) (2 * n - 1) := ⟨_, rfl⟩
        rw [← hsv] at s1 s2 ⊢
        have H7 := Lib.hid (And.intro (H6.out.2.2.trans (hb7.mono H6.out.2.2.size)) (H6b.out.trans (hb7.mono H6b.out.size)))
        clear h7 hg hb7 hsv en
        go_wp2_with fail
        refine (lworth_any _ n cap RA ck rc k (k : Int) V p w7 H.out.1 (by omega) hlt HV.out.2.2.2.2.1 (by omega) HI.out.2.1 HI.out.2.2 (H.out.2.below H7.out.1) (HV.out.2.2.1.below H7.out.2)).mono ?_
        rintro e w8 ⟨rfl, rfl⟩
        go_wp2_with fail
        refine (lworth_any _ n cap CA ck cc k (k : Int) V q w7 H.out.1 (by omega) hlt HV.out.2.2.2.2.2.1 (by omega) HI.out.2.1 HI.out.2.2 (H.out.2.below H7.out.1) (HV.out.2.2.2.1.below H7.out.2)).mono ?_
        rintro e w8 ⟨rfl, rfl⟩
        go_wp2_with fail
        go_round
        case rel => exact ⟨k + 1, by omega, by go_num, H7.out.1, H7.out.2⟩
        case measure => simp [intOf]; omega
      · obtain rfl : n = k := by omega
        go_wp2_with fail
        refine (awake2_any w _ HR.out.1).mono ?_
        rintro e w10 ⟨rfl, hb10⟩
        have H10 := Lib.hid hb10
        clear hb10
        go_wp2_with fail
        go_ret
        exact ⟨rfl, H10.out⟩

/- The division with the greatest product is fair up to one: plain Lean. -/

theorem cmpI_neg (x y : Int) : cmpI x y = -cmpI y x := by unfold cmpI; split <;> split <;> (try split) <;> (try split) <;> omega
theorem cmpL_neg : ∀ a b : List Int, cmpL a b = -cmpL b a
  | [], [] => rfl
  | [], _ :: _ => rfl
  | _ :: _, [] => rfl
  | x :: a, y :: b => by
    simp only [cmpL]
    rw [cmpI_neg x y, cmpL_neg a b]
    by_cases h : cmpI y x = 0
    · rw [if_pos h, if_pos (by omega)]
    · rw [if_neg h, if_neg (by omega)]
theorem cmpL_self : ∀ a : List Int, cmpL a a = 0
  | [] => rfl
  | x :: a => by simp only [cmpL]; rw [if_pos (cmpI_zero.2 rfl)]; exact cmpL_self a
theorem cmpI_le {x y : Int} : cmpI x y ≤ 0 ↔ x ≤ y := by unfold cmpI; split <;> (try split) <;> omega
theorem cmpL_trans : ∀ {a b c : List Int}, cmpL a b ≤ 0 → cmpL b c ≤ 0 → cmpL a c ≤ 0
  | [], [], [], _, _ => by simp [cmpL]
  | [], [], _ :: _, _, _ => by simp [cmpL]
  | [], _ :: _, [], _, _ => by simp [cmpL]
  | [], _ :: _, _ :: _, _, _ => by simp [cmpL]
  | _ :: _, [], _, h, _ => by simp [cmpL] at h
  | _ :: _, _ :: _, [], _, h => by simp [cmpL] at h
  | x :: a, y :: b, z :: c, h1, h2 => by
    simp only [cmpL] at h1 h2 ⊢
    by_cases e1 : cmpI x y = 0
    · rw [if_pos e1] at h1
      have := cmpI_zero.1 e1
      subst this
      by_cases e2 : cmpI x z = 0
      · rw [if_pos e2] at h2 ⊢; exact cmpL_trans h1 h2
      · rw [if_neg e2] at h2 ⊢; exact h2
    · rw [if_neg e1] at h1
      have l1 := cmpI_le.1 h1
      have n1 : x ≠ y := fun h => e1 (cmpI_zero.2 h)
      by_cases e2 : cmpI y z = 0
      · have := cmpI_zero.1 e2
        subst this
        rw [if_neg e1]; exact h1
      · rw [if_neg e2] at h2
        have l2 := cmpI_le.1 h2
        rw [if_neg (fun h => by have := cmpI_zero.1 h; omega)]
        exact cmpI_le.2 (by omega)
theorem bst_max (S : Nat → List Int) (t : Nat) : ∀ s, s < t → cmpL (S s) (S (bst S t)) ≤ 0 := by
  induction t with
  | zero => intro s hs; omega
  | succ t ih =>
    intro s hs
    simp only [bst]
    by_cases h0 : t = 0
    · rw [if_pos h0]
      have : s = 0 := by omega
      rw [this, cmpL_self]; exact Int.le_refl _
    · rw [if_neg h0]
      by_cases hc : 0 < cmpL (S t) (S (bst S t))
      · rw [if_pos hc]
        by_cases e : s = t
        · rw [e, cmpL_self]; exact Int.le_refl _
        · refine cmpL_trans (ih s (by omega)) ?_
          rw [cmpL_neg]; omega
      · rw [if_neg hc]
        by_cases e : s = t
        · rw [e]; omega
        · exact ih s (by omega)
theorem dz_all {n : Nat} : ∀ (m : Nat) (d : List Int), d.length = m → (∀ x ∈ d, 0 ≤ x ∧ x < (n : Int)) → ∃ t, t < n ^ m ∧ dz n m t = d := by
  intro m
  induction m with
  | zero =>
    intro d hd _
    refine ⟨0, by simp, ?_⟩
    have : d = [] := List.length_eq_zero_iff.1 hd
    rw [this]; rfl
  | succ m ih =>
    intro d hd hb
    rcases List.eq_nil_or_concat d with rfl | ⟨d', x, rfl⟩
    · simp at hd
    · obtain ⟨t, ht, e⟩ := ih d' (by simpa using hd) fun y hy => hb y (by simp [hy])
      have hx := hb x (by simp)
      obtain ⟨p, rfl⟩ : ∃ p : Nat, x = (p : Int) := ⟨x.toNat, by omega⟩
      have hp : p < n := by omega
      have hn : 0 < n := by omega
      refine ⟨t * n + p, ?_, ?_⟩
      · rw [Nat.pow_succ]
        have h1 : (t + 1) * n ≤ n ^ m * n := Nat.mul_le_mul_right n ht
        rw [Nat.add_mul] at h1
        omega
      · have e1 : (t * n + p) / n = t := by
          rw [Nat.mul_comm, Nat.mul_add_div hn, Nat.div_eq_of_lt hp]; rfl
        have e2 : (t * n + p) % n = p := by
          rw [Nat.mul_comm, Nat.mul_add_mod, Nat.mod_eq_of_lt hp]
        unfold dz
        rw [dig, e1, e2, List.map_append]
        unfold dz at e
        rw [e]; simp

/-- The product of the first n. -/
def prodN (f : Nat → Int) : Nat → Int
  | 0 => 1
  | n + 1 => prodN f n * f n
theorem prodN_congr {f g : Nat → Int} {n : Nat} (h : ∀ k, k < n → f k = g k) : prodN f n = prodN g n := by
  induction n with
  | zero => rfl
  | succ n ih => simp only [prodN]; rw [ih fun k hk => h k (by omega), h n (by omega)]
theorem prodN_pos {f : Nat → Int} {n : Nat} (h : ∀ k, k < n → 0 < f k) : 0 < prodN f n := by
  induction n with
  | zero => simp [prodN]
  | succ n ih => simp only [prodN]; exact Int.mul_pos (ih fun k hk => h k (by omega)) (h n (by omega))
theorem sumN_out (f : Nat → Int) (i n : Nat) (h : i < n) : sumN f n = f i + sumN (fun k => if k = i then 0 else f k) n := by
  induction n with
  | zero => omega
  | succ n ih =>
    simp only [sumN]
    by_cases e : i = n
    · subst e
      have := sumN_congr (f := fun k => if k = i then 0 else f k) (g := f) (n := i) fun k hk => by rw [if_neg (by omega)]
      rw [if_pos rfl, this]
      omega
    · rw [if_neg (by omega), ih (by omega)]; omega
theorem prodN_out (f : Nat → Int) (i n : Nat) (h : i < n) : prodN f n = f i * prodN (fun k => if k = i then 1 else f k) n := by
  induction n with
  | zero => omega
  | succ n ih =>
    simp only [prodN]
    by_cases e : i = n
    · subst e
      have := prodN_congr (f := fun k => if k = i then 1 else f k) (g := f) (n := i) fun k hk => by rw [if_neg (by omega)]
      rw [if_pos rfl, this]
      rw [Int.mul_one, Int.mul_comm]
    · rw [if_neg (by omega), ih (by omega), Int.mul_assoc]
theorem sumN_lt1 {f g : Nat → Int} {n : Nat} (h : ∀ k, k < n → f k ≤ g k) {i : Nat} (hi : i < n) (hl : f i < g i) : sumN f n < sumN g n := by
  rw [sumN_out f i n hi, sumN_out g i n hi]
  have := sumN_mono (f := fun k => if k = i then 0 else f k) (g := fun k => if k = i then 0 else g k) n fun k hk => by
    by_cases e : k = i
    · rw [if_pos e, if_pos e]; exact Int.le_refl _
    · rw [if_neg e, if_neg e]; exact h k hk
  omega
theorem sumN_some {f : Nat → Int} {n : Nat} (h : 0 < sumN f n) : ∃ k, k < n ∧ 0 < f k := by
  induction n with
  | zero => simp [sumN] at h
  | succ n ih =>
    simp only [sumN] at h
    by_cases e : 0 < f n
    · exact ⟨n, by omega, e⟩
    · obtain ⟨k, hk, h2⟩ := ih (by omega)
      exact ⟨k, by omega, h2⟩
theorem posN_own (V : List (List Int)) (d : List Int) (n : Nat) : posN (ownV V d n) = sumN (fun k => if 0 < wor V d k (k : Int) then 1 else 0) n := by
  induction n with
  | zero => rfl
  | succ n ih => rw [ownV_succ, posN_snoc, ih]; rfl
theorem posP_own (V : List (List Int)) (d : List Int) (n : Nat) : posP (ownV V d n) = prodN (fun k => if 0 < wor V d k (k : Int) then wor V d k (k : Int) else 1) n := by
  induction n with
  | zero => rfl
  | succ n ih => rw [ownV_succ, posP_snoc, ih]; rfl

theorem move_better {V : List (List Int)} {d : List Int} {n i j g : Nat} (hi : i < n) (hj : j < n) (hij : i ≠ j) (hg : g < d.length) (hd : d.getD g 0 = (j : Int))
    (h0 : ∀ k, k < n → 0 ≤ wor V d k (k : Int)) (hx : 0 < (rowV V i).getD g 0) (hy : 0 ≤ (rowV V j).getD g 0) (hyl : (rowV V j).getD g 0 ≤ wor V d j (j : Int))
    (hyO : 0 < wor V d j (j : Int) → (rowV V j).getD g 0 < wor V d j (j : Int) ∧ wor V d i (i : Int) * wor V d j (j : Int) < (wor V d i (i : Int) + (rowV V i).getD g 0) * (wor V d j (j : Int) - (rowV V j).getD g 0)) :
    0 < cmpL (nashS V (d.set g (i : Int)) n) (nashS V d n) := by
  have ei : wor V (d.set g (i : Int)) i (i : Int) = wor V d i (i : Int) + (rowV V i).getD g 0 := by
    rw [wor_set hg, hd, if_neg (by omega), if_pos rfl]; omega
  have ej : wor V (d.set g (i : Int)) j (j : Int) = wor V d j (j : Int) - (rowV V j).getD g 0 := by
    rw [wor_set hg, hd, if_pos rfl, if_neg (by omega)]; omega
  have ek : ∀ k, k ≠ i → k ≠ j → wor V (d.set g (i : Int)) k (k : Int) = wor V d k (k : Int) := fun k h1 h2 => by
    rw [wor_set hg, hd, if_neg (by omega), if_neg (by omega)]; omega
  have hOi := h0 i hi
  have hOj := h0 j hj
  obtain ⟨Oi, hOie⟩ : ∃ Oi, Oi = wor V d i (i : Int) := ⟨_, rfl⟩
  obtain ⟨Oj, hOje⟩ : ∃ Oj, Oj = wor V d j (j : Int) := ⟨_, rfl⟩
  obtain ⟨x, hxe⟩ : ∃ x, x = (rowV V i).getD g 0 := ⟨_, rfl⟩
  obtain ⟨y, hye⟩ : ∃ y, y = (rowV V j).getD g 0 := ⟨_, rfl⟩
  rw [← hOie, ← hxe] at ei
  rw [← hOje, ← hye] at ej
  rw [← hOie] at hOi
  rw [← hOje] at hOj
  rw [← hOje, ← hye, ← hOie, ← hxe] at hyO
  rw [← hxe] at hx
  rw [← hye] at hy hyl
  rw [← hOje] at hyl
  have cN : ∀ f : Nat → Int, sumN f n = f i + (f j + sumN (fun k => if k = j then 0 else if k = i then 0 else f k) n) := fun f => by
    rw [sumN_out f i n hi, sumN_out _ j n hj, if_neg (by omega)]
  have cP : ∀ f : Nat → Int, prodN f n = f i * (f j * prodN (fun k => if k = j then 1 else if k = i then 1 else f k) n) := fun f => by
    rw [prodN_out f i n hi, prodN_out _ j n hj, if_neg (by omega)]
  unfold nashS
  rw [posN_own, posN_own, posP_own, posP_own, cN, cN (fun k => if 0 < wor V d k (k : Int) then 1 else 0), cP, cP (fun k => if 0 < wor V d k (k : Int) then wor V d k (k : Int) else 1)]
  rw [sumN_congr (f := fun k => if k = j then 0 else if k = i then 0 else if 0 < wor V (d.set g (i : Int)) k (k : Int) then 1 else 0) (g := fun k => if k = j then 0 else if k = i then 0 else if 0 < wor V d k (k : Int) then 1 else 0) fun k _ => by
    by_cases e1 : k = j
    · rw [if_pos e1, if_pos e1]
    · by_cases e2 : k = i
      · rw [if_neg e1, if_neg e1, if_pos e2, if_pos e2]
      · rw [if_neg e1, if_neg e1, if_neg e2, if_neg e2, ek k e2 e1]]
  rw [prodN_congr (f := fun k => if k = j then 1 else if k = i then 1 else if 0 < wor V (d.set g (i : Int)) k (k : Int) then wor V (d.set g (i : Int)) k (k : Int) else 1) (g := fun k => if k = j then 1 else if k = i then 1 else if 0 < wor V d k (k : Int) then wor V d k (k : Int) else 1) fun k _ => by
    by_cases e1 : k = j
    · rw [if_pos e1, if_pos e1]
    · by_cases e2 : k = i
      · rw [if_neg e1, if_neg e1, if_pos e2, if_pos e2]
      · rw [if_neg e1, if_neg e1, if_neg e2, if_neg e2, ek k e2 e1]]
  have hR : 0 < prodN (fun k => if k = j then 1 else if k = i then 1 else if 0 < wor V d k (k : Int) then wor V d k (k : Int) else 1) n := prodN_pos fun k _ => by
    split
    · omega
    · split
      · omega
      · split <;> omega
  generalize prodN (fun k => if k = j then 1 else if k = i then 1 else if 0 < wor V d k (k : Int) then wor V d k (k : Int) else 1) n = R at hR ⊢
  generalize sumN (fun k => if k = j then 0 else if k = i then 0 else if 0 < wor V d k (k : Int) then 1 else 0) n = Q
  simp only [ei, ej, ← hOie, ← hOje]
  rw [if_pos (show 0 < Oi + x by omega), if_pos (show 0 < Oi + x by omega)]
  have hlex : ∀ a b c e : Int, (c < a ∨ (a = c ∧ e < b)) → 0 < cmpL [a, b] [c, e] := by
    intro a b c e h
    simp only [cmpL]
    rcases h with h | ⟨h, h2⟩
    · rw [if_neg (fun hz => by have := cmpI_zero.1 hz; omega)]
      have : ¬ cmpI a c ≤ 0 := fun hz => by have := cmpI_le.1 hz; omega
      omega
    · rw [if_pos (cmpI_zero.2 h), if_neg (fun hz => by have := cmpI_zero.1 hz; omega)]
      have : ¬ cmpI b e ≤ 0 := fun hz => by have := cmpI_le.1 hz; omega
      omega
  have hOj1 : 0 < Oj - y ↔ 0 < Oj := ⟨fun h => by omega, fun h => by have := (hyO h).1; omega⟩
  refine hlex _ _ _ _ ?_
  by_cases hi0 : 0 < Oi
  · refine .inr ⟨?_, ?_⟩
    · rw [if_pos hi0]
      by_cases h : 0 < Oj
      · rw [if_pos h, if_pos (hOj1.2 h)]
      · rw [if_neg h, if_neg (fun hh => h (hOj1.1 hh))]
    · rw [if_pos hi0]
      by_cases h : 0 < Oj
      · rw [if_pos h, if_pos (hOj1.2 h), ← Int.mul_assoc, ← Int.mul_assoc]
        exact Int.mul_lt_mul_of_pos_right (hyO h).2 hR
      · rw [if_neg h, if_neg (fun hh => h (hOj1.1 hh)), Int.one_mul]
        exact Int.mul_lt_mul_of_pos_right (by omega) hR
  · refine .inl ?_
    rw [if_neg hi0]
    by_cases h : 0 < Oj
    · rw [if_pos h, if_pos (hOj1.2 h)]; omega
    · rw [if_neg h, if_neg (fun hh => h (hOj1.1 hh))]; omega

/-- A good whose loss costs j least for what i has by it. -/
theorem least_loss {vi vj : Nat → Int} {c : Nat → Prop} [DecidablePred c] {m : Nat} (hvj : ∀ k, 0 ≤ vj k) (hvi : ∀ k, 0 ≤ vi k)
    (ha : 0 < sumN (fun k => if c k then vi k else 0) m) : ∃ g, g < m ∧ c g ∧ 0 < vi g ∧ vj g * sumN (fun k => if c k then vi k else 0) m ≤ sumN (fun k => if c k then vj k else 0) m * vi g := by
  obtain ⟨g0, hg0, hp⟩ := sumN_some ha
  have hc0 : c g0 := Classical.byContradiction fun h => by simp [h] at hp
  rw [if_pos hc0] at hp
  refine Classical.byContradiction fun hno => ?_
  obtain ⟨a, hae⟩ : ∃ a, a = sumN (fun k => if c k then vi k else 0) m := ⟨_, rfl⟩
  obtain ⟨b, hbe⟩ : ∃ b, b = sumN (fun k => if c k then vj k else 0) m := ⟨_, rfl⟩
  rw [← hae, ← hbe] at hno
  rw [← hae] at ha
  have hlt : ∀ g, g < m → c g → 0 < vi g → b * vi g < a * vj g := fun g hg hc hv => by
    refine Int.not_le.1 fun h => hno ⟨g, hg, hc, hv, by rw [Int.mul_comm]; exact h⟩
  have e1 : sumN (fun k => b * (if c k then vi k else 0)) m = b * a := by rw [sumN_mul, ← hae]
  have e2 : sumN (fun k => a * (if c k then vj k else 0)) m = a * b := by rw [sumN_mul, ← hbe]
  have hl := sumN_lt1 (f := fun k => b * (if c k then vi k else 0)) (g := fun k => a * (if c k then vj k else 0)) (n := m) (i := g0) (fun k hk => by
    by_cases hc : c k
    · simp only [if_pos hc]
      by_cases hv : 0 < vi k
      · exact Int.le_of_lt (hlt k hk hc hv)
      · have : vi k = 0 := by have := hvi k; omega
        rw [this, Int.mul_zero]
        exact Int.mul_nonneg (Int.le_of_lt ha) (hvj k)
    · simp only [if_neg hc]; simp) hg0 (by simp only [if_pos hc0]; exact hlt g0 hg0 hc0 hp)
  rw [e1, e2, Int.mul_comm] at hl
  omega

theorem nash_ef1 {V : List (List Int)} {d : List Int} {n m : Nat} (hd : ∀ x ∈ d, 0 ≤ x ∧ x < (n : Int)) (hld : d.length = m) (hr : ∀ i, i < n → (rowV V i).length = m ∧ ∀ x ∈ rowV V i, 0 ≤ x ∧ x ≤ 100)
    (hmax : ∀ d' : List Int, d'.length = m → (∀ x ∈ d', 0 ≤ x ∧ x < (n : Int)) → cmpL (nashS V d' n) (nashS V d n) ≤ 0) : ef1 V d n := by
  intro i j hi hj he
  have he := of_decide_eq_true he
  have hij : i ≠ j := by rintro rfl; omega
  refine Classical.byContradiction fun hno => ?_
  have hno : ∀ g, g < d.length → d.getD g 0 = (j : Int) → wor V d i (i : Int) < wor V d i (j : Int) - (rowV V i).getD g 0 := fun g hg hgd => Int.not_le.1 fun h => hno ⟨g, hg, hgd, h⟩
  have hri := fun k => row_nonneg hr hi k
  have hrj := fun k => row_nonneg hr hj k
  have h0 : ∀ k, k < n → 0 ≤ wor V d k (k : Int) := fun k hk => (worTo_bd (hr k hk).2 _ _ _).1
  have ea : wor V d i (j : Int) = sumN (fun k => if d.getD k 0 = (j : Int) then (rowV V i).getD k 0 else 0) m := by unfold wor; rw [hld, worTo_sumN]
  have eb : wor V d j (j : Int) = sumN (fun k => if d.getD k 0 = (j : Int) then (rowV V j).getD k 0 else 0) m := by unfold wor; rw [hld, worTo_sumN]
  have hOi := h0 i hi
  have hOj := h0 j hj
  obtain ⟨g, hg, hgd, hgv, hgl⟩ := least_loss (vi := fun k => (rowV V i).getD k 0) (vj := fun k => (rowV V j).getD k 0) (c := fun k => d.getD k 0 = (j : Int)) (m := m) hrj hri (by rw [← ea]; omega)
  have hgl : (rowV V j).getD g 0 * sumN (fun k => if d.getD k 0 = (j : Int) then (rowV V i).getD k 0 else 0) m ≤ sumN (fun k => if d.getD k 0 = (j : Int) then (rowV V j).getD k 0 else 0) m * (rowV V i).getD g 0 := hgl
  rw [← ea, ← eb] at hgl
  have hn := hno g (by omega) hgd
  have hyl : (rowV V j).getD g 0 ≤ wor V d j (j : Int) := by
    have := sumN_out (fun k => if d.getD k 0 = (j : Int) then (rowV V j).getD k 0 else 0) g m hg
    rw [← eb, if_pos hgd] at this
    have h2 := sumN_mono (f := fun _ => 0) (g := fun k => if k = g then 0 else if d.getD k 0 = (j : Int) then (rowV V j).getD k 0 else 0) m fun k _ => by
      split
      · exact Int.le_refl _
      · split
        · exact hrj k
        · exact Int.le_refl _
    rw [sumN_zero] at h2
    omega
  have hy := hrj g
  have hset := hmax (d.set g (i : Int)) (by rw [List.length_set]; exact hld) (fun x hx => by
    rcases List.mem_or_eq_of_mem_set hx with h | h
    · exact hd x h
    · rw [h]; omega)
  have := move_better hi hj hij (by omega) hgd h0 hgv hy hyl fun hOjp => by
    generalize wor V d i (i : Int) = Oi at *
    generalize wor V d j (j : Int) = Oj at *
    generalize wor V d i (j : Int) = a at *
    generalize (rowV V i).getD g 0 = x at *
    generalize (rowV V j).getD g 0 = y at *
    refine ⟨?_, ?_⟩
    · refine Int.not_le.1 fun h => ?_
      have h1 : Oj * a ≤ y * a := Int.mul_le_mul_of_nonneg_right h (by omega)
      have h2 : Oj * x < Oj * a := Int.mul_lt_mul_of_pos_left (by omega) hOjp
      omega
    · have e1 : (Oi + x) * (Oj - y) = Oi * Oj + (Oj * x - y * (Oi + x)) := by
        rw [Int.mul_sub, Int.add_mul, Int.mul_comm (Oi + x) y, Int.mul_comm x Oj]; omega
      have h3 : y * (Oi + x) < Oj * x := by
        by_cases hy0 : y = 0
        · rw [hy0, Int.zero_mul]; exact Int.mul_pos hOjp hgv
        · have : y * (Oi + x) < y * a := Int.mul_lt_mul_of_pos_left (by omega) (by omega)
          omega
      omega
  omega

theorem nashB_ef1 {V : List (List Int)} {n m : Nat} (hl : V.length = n) (hm : m = (rowV V 0).length) (hn : 1 ≤ n) (hr : ∀ i, i < n → (rowV V i).length = m ∧ ∀ x ∈ rowV V i, 0 ≤ x ∧ x ≤ 100) : ef1 V (dz n m (nashB V)) n := by
  refine nash_ef1 (dz_lt (by omega) m _) (dz_length n m _) hr fun d' h1 h2 => ?_
  obtain ⟨t, ht, rfl⟩ := dz_all m d' h1 h2
  have := bst_max (fun t => nashS V (dz n m t) n) (n ^ m) t ht
  unfold nashB
  rw [hl, ← hm]
  exact this

/- Contracts: Envy and Fair of package split. -/

theorem divV_len {V : List (List Int)} {d : List Int} {m : Nat} (h : divV V d = true) (hm : m = (rowV V 0).length) : d.length = m := by
  unfold divV at h
  simp only [Bool.and_eq_true, decide_eq_true_eq] at h
  rw [hm]; exact h.1

/-- What Envy leaves. -/
def EnvyPost0 (V : List (List Int)) (d : List Int) (w : World) (e : Ending) (w' : World) : Prop :=
  ((valV V && divV V d) = false ∧ e = .returned (.tuple #[.slice none 0 0, .int .i64 2]) ∧ Below w.heap.size w w') ∨
  ((valV V && divV V d) = true ∧ ∃ A c, e = .returned (.tuple #[.slice A (envL V d V.length).length c, .int .i64 0]) ∧ (envL V d V.length).length ≤ 1000 ∧ Pairs w' A (envL V d V.length) ∧ Below w.heap.size w w')

set_option maxHeartbeats 1600000 in
theorem senvy0_any (A D : Option Addr) (n cap nd capd : Nat) (V : List (List Int)) (d : List Int) (w : World) (hl : V.length = n) (hn : n ≤ 9223372036854775807) (hV : Mat w A V) (hld : d.length = nd) (hnd : nd ≤ 9223372036854775807) (hD : Ints w D d) :
    Calls Try.prog 32 #[.slice A n cap, .slice D nd capd] w (EnvyPost0 V d w) := by
  have H := Lib.hid (And.intro hl (And.intro hV (And.intro hld hD)))
  clear hl hV hld hD
  go_enter Try.func32, Try.ntmps32
  go_wp2_with fail
  refine (svalid_any A n cap V _ H.out.1 hn H.out.2.1).mono ?_
  rintro e w1 ⟨rfl, hb1⟩
  have H1 := Lib.hid hb1
  clear hb1
  cases hv : valV V
  · have HV := Lib.hid hv
    clear hv
    go_wp2_with fail
    go_ret2
    exact .inl ⟨by rw [HV.out]; rfl, rfl, H1.out⟩
  · have hv1 := valV_iff.1 hv
    have hn4 : 1 ≤ n ∧ n ≤ 4 := by rw [← H.out.1]; exact hv1.1
    obtain ⟨m, hm⟩ : ∃ m, m = (rowV V 0).length := ⟨_, rfl⟩
    have hm7 : 1 ≤ m ∧ m ≤ 7 := by rw [hm]; exact hv1.2.1
    have HV := Lib.hid (And.intro hv (And.intro hm (valV_rows hv hm)))
    clear hv hv1 hm
    go_wp2_with fail
    refine (sdivision_any A D n cap nd capd m V d w1 H.out.1 (by omega) HV.out.2.1 (by omega) (H.out.2.1.below H1.out) H.out.2.2.1 hnd (H.out.2.2.2.below H1.out)).mono ?_
    rintro e w2 ⟨rfl, hb2⟩
    have H2 := Lib.hid (H1.out.trans (hb2.mono H1.out.size))
    clear hb2
    cases hd : divV V d
    · have HD := Lib.hid hd
      clear hd
      go_wp2_with fail
      go_ret2
      exact .inl ⟨by rw [HD.out, Bool.and_false], rfl, H2.out⟩
    · have hdm : nd = m := by rw [← H.out.2.2.1]; exact divV_len hd HV.out.2.1
      subst hdm
      have HD := Lib.hid hd
      clear hd
      go_wp2_with fail
      refine (senvy_any A n cap D nd capd V d w2 H.out.1 (by omega) H.out.2.2.1 (by omega) (by rw [← H.out.1]; exact HV.out.2.2) (H.out.2.1.below H2.out) (H.out.2.2.2.below H2.out)).mono ?_
      rintro e w3 ⟨A3, c3, rfl, hq, hP, hb3⟩
      obtain ⟨q, hqe⟩ : ∃ q, q = (envL V d n).length := ⟨_, rfl⟩
      rw [← hqe] at hq ⊢
      have H3 := Lib.hid (And.intro hqe (And.intro hP (H2.out.trans (hb3.mono H2.out.size))))
      clear hqe hP hb3
      go_wp2_with fail
      go_ret2
      refine .inr ⟨by rw [HV.out.1, HD.out]; rfl, A3, c3, ?_, ?_, ?_, H3.out.2.2⟩
      · rw [H.out.1, ← H3.out.1]; rfl
      · rw [H.out.1, ← H3.out.1]; exact hq
      · rw [H.out.1]; exact H3.out.2.1

/-- What Fair leaves. -/
def FairPost0 (V : List (List Int)) (d : List Int) (kind : Int) (w : World) (e : Ending) (w' : World) : Prop :=
  ((valV V && divV V d && decide (0 ≤ kind) && decide (kind ≤ 4)) = false ∧ e = .returned (.tuple #[.bool false, .int .i64 2]) ∧ Below w.heap.size w w') ∨
  ((valV V && divV V d && decide (0 ≤ kind) && decide (kind ≤ 4)) = true ∧ e = .returned (.tuple #[.bool (fairB V d V.length kind), .int .i64 0]) ∧ Below w.heap.size w w')

set_option maxHeartbeats 1600000 in
theorem sfair0_any (A D : Option Addr) (n cap nd capd : Nat) (kind : Int) (V : List (List Int)) (d : List Int) (w : World) (hl : V.length = n) (hn : n ≤ 9223372036854775807) (hV : Mat w A V) (hld : d.length = nd) (hnd : nd ≤ 9223372036854775807) (hD : Ints w D d) :
    Calls Try.prog 31 #[.slice A n cap, .slice D nd capd, .int .i64 kind] w (FairPost0 V d kind w) := by
  have H := Lib.hid (And.intro hl (And.intro hV (And.intro hld hD)))
  clear hl hV hld hD
  go_enter Try.func31, Try.ntmps31
  go_wp2_with fail
  refine (svalid_any A n cap V _ H.out.1 hn H.out.2.1).mono ?_
  rintro e w1 ⟨rfl, hb1⟩
  have H1 := Lib.hid hb1
  clear hb1
  cases hv : valV V
  · have HV := Lib.hid hv
    clear hv
    go_wp2_with fail
    go_ret2
    exact .inl ⟨by rw [HV.out]; rfl, rfl, H1.out⟩
  · have hv1 := valV_iff.1 hv
    have hn4 : 1 ≤ n ∧ n ≤ 4 := by rw [← H.out.1]; exact hv1.1
    obtain ⟨m, hm⟩ : ∃ m, m = (rowV V 0).length := ⟨_, rfl⟩
    have hm7 : 1 ≤ m ∧ m ≤ 7 := by rw [hm]; exact hv1.2.1
    have HV := Lib.hid (And.intro hv (And.intro hm (valV_rows hv hm)))
    clear hv hv1 hm
    go_wp2_with fail
    refine (sdivision_any A D n cap nd capd m V d w1 H.out.1 (by omega) HV.out.2.1 (by omega) (H.out.2.1.below H1.out) H.out.2.2.1 hnd (H.out.2.2.2.below H1.out)).mono ?_
    rintro e w2 ⟨rfl, hb2⟩
    have H2 := Lib.hid (H1.out.trans (hb2.mono H1.out.size))
    clear hb2
    cases hd : divV V d
    · have HD := Lib.hid hd
      clear hd
      go_wp2_with fail
      go_ret2
      exact .inl ⟨by rw [HD.out]; simp, rfl, H2.out⟩
    · have hdm : nd = m := by rw [← H.out.2.2.1]; exact divV_len hd HV.out.2.1
      subst hdm
      have HD := Lib.hid hd
      clear hd
      by_cases h0 : kind < 0
      · go_wp2_with fail
        go_ret2
        exact .inl ⟨by rw [decide_eq_false (p := 0 ≤ kind) (by omega)]; simp, rfl, H2.out⟩
      · by_cases h4 : 4 < kind
        · go_wp2_with fail
          go_ret2
          exact .inl ⟨by rw [decide_eq_false (p := kind ≤ 4) (by omega)]; simp, rfl, H2.out⟩
        · go_wp2_with fail
          have hcall : Calls Try.prog 63 #[.slice A n cap, .slice D nd capd, .int .i64 kind] w2 fun e w' => e = .returned (.bool (fairB V d n kind)) ∧ Below w2.heap.size w2 w' := by
            by_cases h3 : kind ≤ 2
            · exact sfair_low A n cap D nd capd kind V d w2 H.out.1 (by omega) H.out.2.2.1 (by omega) (by omega) (by rw [← H.out.1]; exact HV.out.2.2) (H.out.2.1.below H2.out) (H.out.2.2.2.below H2.out)
            · exact sfair_high A n cap D nd capd kind V d w2 H.out.1 (by omega) H.out.2.2.1 (by omega) (by omega) (by rw [← H.out.1]; exact HV.out.2.2) (H.out.2.1.below H2.out) (H.out.2.2.2.below H2.out)
          refine hcall.mono ?_
          rintro e w3 ⟨rfl, hb3⟩
          have H3 := Lib.hid (H2.out.trans (hb3.mono H2.out.size))
          clear hb3 hcall
          obtain ⟨b, hb⟩ : ∃ b, b = fairB V d n kind := ⟨_, rfl⟩
          rw [← hb]
          have HB := Lib.hid hb
          clear hb
          go_wp2_with fail
          go_ret2
          refine .inr ⟨by rw [HV.out.1, HD.out, decide_eq_true (show 0 ≤ kind by omega), decide_eq_true (show kind ≤ 4 by omega)]; rfl, ?_, H3.out⟩
          rw [H.out.1, ← HB.out]; rfl

/- The walk of SplitOne: Rounds, Cycles and Nash are fair up to one. -/

set_option maxRecDepth 100000 in
set_option maxHeartbeats 3200000 in
theorem law_one (A : Option Addr) (n cap : Nat) (V : List (List Int)) (w : World)
    (hl : V.length = n) (_hc : n ≤ cap) (hm : cap ≤ 9223372036854775807) (hV : Mat w A V) (_hx : ∀ r ∈ V, ∀ x ∈ r, -9223372036854775808 ≤ x ∧ x ≤ 9223372036854775807) :
    Calls Try.prog 13 #[.slice A n cap] w fun e w' => e = .returned (.bool true) ∧ Below w.heap.size w w' := by
  have hn9 : n ≤ 9223372036854775807 := by omega
  have H := Lib.hid (And.intro hl hV)
  clear hl hV _hx
  go_enter Try.func13, Try.ntmps13
  go_wp2_with fail
  refine (few2_any A n cap V _ H.out.1 hn9 H.out.2).mono ?_
  rintro e w1 ⟨A1, q1, c1, rfl, hq, hq6, hqc, hc1, hM, hb⟩
  have H1 := Lib.hid (And.intro hq (And.intro hM hb))
  clear hq hM hb
  go_wp2_with fail
  refine (srounds_any A1 q1 c1 (fewV V) _ H1.out.1 (by omega) H1.out.2.1).mono ?_
  rintro e w2 h2
  unfold RndPost at h2
  rw [valV_few] at h2
  obtain ⟨gd, hgd⟩ : ∃ gd, gd = valV V := ⟨_, rfl⟩
  rw [← hgd] at h2
  obtain ⟨RA, rk, rc, ev, he, hres, hb2⟩ : ∃ RA rk rc ev, e = .returned (.tuple #[.slice RA rk rc, .int .i64 ev]) ∧ ((gd = false ∧ rk = 0 ∧ ev = 2) ∨ (gd = true ∧ ev = 0 ∧ rk = (rowV V 0).length ∧ Ints w2 RA (rndTo V n rk rk))) ∧ Below w1.heap.size w1 w2 := by
    rcases h2 with ⟨hg, rfl, hb⟩ | ⟨hg, g, rfl, hB, _, hb⟩
    · exact ⟨none, 0, 0, 2, rfl, .inl ⟨hg, rfl, rfl⟩, hb⟩
    · rw [hg] at hgd
      rw [fewV_ok hgd.symm, H.out.1] at hB
      exact ⟨_, _, _, 0, by rw [fewV_ok hgd.symm], .inr ⟨hg, rfl, rfl, blk_ints hB⟩, hb⟩
  subst he
  have H2 := Lib.hid (And.intro hgd (And.intro hres (H1.out.2.2.trans (hb2.mono H1.out.2.2.size))))
  clear h2 hgd hres hb2
  go_wp2_with fail
  refine (few2_any A n cap V _ H.out.1 hn9 (H.out.2.below H2.out.2.2)).mono ?_
  rintro e w3 ⟨A3, q3, c3, rfl, hq, hq63, hqc3, hc3, hM, hb⟩
  have H3 := Lib.hid (And.intro hq (And.intro hM (And.intro hb (H2.out.2.2.trans (hb.mono H2.out.2.2.size)))))
  clear hq hM hb
  go_wp2_with fail
  refine (scycles_any A3 q3 c3 (fewV V) _ H3.out.1 (by omega) H3.out.2.1).mono ?_
  rintro e w4 h4
  unfold CyclesPost at h4
  rw [valV_few, ← H2.out.1] at h4
  obtain ⟨CA, ck, cc, fv, he, hres, hb4⟩ : ∃ CA ck cc fv, e = .returned (.tuple #[.slice CA ck cc, .int .i64 fv]) ∧ ((gd = false ∧ ck = 0 ∧ fv = 2) ∨ (gd = true ∧ fv = 0 ∧ ck = (rowV V 0).length ∧ Ints w4 CA (cycTo V n ck ck))) ∧ Below w3.heap.size w3 w4 := by
    rcases h4 with ⟨hg, rfl, hb⟩ | ⟨hg, g, rfl, hB, _, hb⟩
    · exact ⟨none, 0, 0, 2, rfl, .inl ⟨hg, rfl, rfl⟩, hb⟩
    · have hgt := H2.out.1.symm.trans hg
      rw [fewV_ok hgt, H.out.1] at hB
      exact ⟨_, _, _, 0, by rw [fewV_ok hgt], .inr ⟨hg, rfl, rfl, blk_ints hB⟩, hb⟩
  subst he
  have H4 := Lib.hid (And.intro hres (And.intro (H3.out.2.2.1.trans (hb4.mono H3.out.2.2.1.size)) (H3.out.2.2.2.trans (hb4.mono H3.out.2.2.2.size))))
  clear h4 hres hb4
  go_wp2_with fail
  refine (few2_any A n cap V _ H.out.1 hn9 (H.out.2.below H4.out.2.2)).mono ?_
  rintro e w5 ⟨A5, q5, c5, rfl, hq, hq65, hqc5, hc5, hM, hb⟩
  have H5 := Lib.hid (And.intro hq (And.intro hM (And.intro (H4.out.2.1.trans (hb.mono H4.out.2.1.size)) (And.intro (H4.out.2.2.trans (hb.mono H4.out.2.2.size)) hb))))
  clear hq hM hb
  go_wp2_with fail
  refine (nash_any A5 q5 c5 (fewV V) _ H5.out.1 (by omega) H5.out.2.1).mono ?_
  rintro e w6 h6
  unfold NashPost at h6
  rw [valV_few, ← H2.out.1] at h6
  obtain ⟨NA, nk, nc, pv, gv, he, hres, hb6⟩ : ∃ NA nk nc pv gv, e = .returned (.tuple #[.slice NA nk nc, .int .i64 pv, .int .i64 gv]) ∧ ((gd = false ∧ nk = 0 ∧ gv = 2) ∨ (gd = true ∧ gv = 0 ∧ nk = (rowV V 0).length ∧ Ints w6 NA (dz n nk (nashB V)))) ∧ Below w5.heap.size w5 w6 := by
    rcases h6 with ⟨hg, rfl, hb⟩ | ⟨hg, NA, nc, rfl, _, _, hI, hb⟩
    · exact ⟨none, 0, 0, _, 2, rfl, .inl ⟨hg, rfl, rfl⟩, hb⟩
    · have hgt := H2.out.1.symm.trans hg
      rw [fewV_ok hgt, H.out.1] at hI
      exact ⟨_, _, _, _, 0, by rw [fewV_ok hgt], .inr ⟨hg, rfl, rfl, hI⟩, hb⟩
  subst he
  have H6 := Lib.hid (And.intro hres (And.intro (H5.out.2.2.1.trans (hb6.mono H5.out.2.2.1.size)) (And.intro (H5.out.2.2.2.1.trans (hb6.mono H5.out.2.2.2.1.size)) (H5.out.2.2.2.2.trans (hb6.mono H5.out.2.2.2.2.size)))))
  clear h6 hres hb6
  rcases H2.out.2.1 with ⟨rfl, rfl, rfl⟩ | ⟨rfl, rfl, hrk, hRI⟩
  · obtain ⟨rfl, rfl⟩ : ck = 0 ∧ fv = 2 := by
      rcases H4.out.1 with ⟨_, h⟩ | ⟨h, _⟩
      · exact h
      · cases h
    obtain ⟨rfl, rfl⟩ : nk = 0 ∧ gv = 2 := by
      rcases H6.out.1 with ⟨_, h⟩ | ⟨h, _⟩
      · exact h
      · cases h
    go_wp2_with fail
    refine (awake2_any w w6 H6.out.2.2.1).mono ?_
    rintro e w7 ⟨rfl, hb7⟩
    have H7 := Lib.hid hb7
    clear hb7
    go_wp2_with fail
    go_ret
    exact ⟨rfl, H7.out⟩
  · obtain ⟨rfl, hck, hCI⟩ : fv = 0 ∧ ck = (rowV V 0).length ∧ Ints w4 CA (cycTo V n ck ck) := by
      rcases H4.out.1 with ⟨h, _⟩ | ⟨_, h⟩
      · cases h
      · exact h
    obtain ⟨rfl, hnk, hNI⟩ : gv = 0 ∧ nk = (rowV V 0).length ∧ Ints w6 NA (dz n nk (nashB V)) := by
      rcases H6.out.1 with ⟨h, _⟩ | ⟨_, h⟩
      · cases h
      · exact h
    have hv : valV V = true := H2.out.1.symm
    have hv1 := valV_iff.1 hv
    have hn4 : 1 ≤ n ∧ n ≤ 4 := by rw [← H.out.1]; exact hv1.1
    have hm7 : 1 ≤ rk ∧ rk ≤ 7 := by rw [hrk]; exact hv1.2.1
    obtain rfl : ck = rk := by omega
    obtain rfl : nk = ck := by omega
    have hrows := valV_rows hv hrk
    rw [H.out.1] at hrows
    have hRI6 := hRI.below H6.out.2.1
    have hCI6 := hCI.below H6.out.2.2.2
    obtain ⟨cs, hcs⟩ : ∃ cs : Array Value, cs = #[.slice RA nk rc, .slice CA nk cc, .slice NA nk nc] := ⟨_, rfl⟩
    have key : ∀ k : Nat, k < 3 → ∃ PA pc p, cs[k]? = some (.slice PA nk pc) ∧ Ints w6 PA p ∧ p.length = nk ∧ divV V p = true ∧ fairB V p n 1 = true := by
      intro k hk
      match k with
      | 0 => exact ⟨RA, rc, _, by rw [hcs]; rfl, hRI6, rndTo_length _ _ _ _, divV_of H.out.1 hrk (rndTo_length _ _ _ _) (rnd_division V (by omega)), ef1_fair (rnd_ef1 hn4.1 hrows)⟩
      | 1 => exact ⟨CA, cc, _, by rw [hcs]; rfl, hCI6, cycTo_length V n nk nk, divV_of H.out.1 hrk (cycTo_length V n nk nk) (cyc_full hn4 hm7.2 hrows), ef1_fair (cyc_ef1 hn4 hm7.2 hrows nk (Nat.le_refl _)).2.2⟩
      | 2 => exact ⟨NA, nc, _, by rw [hcs]; rfl, hNI, dz_length n nk _, divV_of H.out.1 hrk (dz_length n nk _) (dz_lt (by omega) nk _), ef1_fair (nashB_ef1 H.out.1 hrk hn4.1 hrows)⟩
      | k + 3 => omega
    have HV := Lib.hid (And.intro key hv)
    clear key hv hv1 hrk hck hnk hRI hCI hNI hRI6 hCI6 hrows
    go_wp2_with fail
    rw [← hcs]
    have hcz : cs.size = 3 := by rw [hcs]; rfl
    clear hcs
    obtain ⟨g, hg⟩ : ∃ g, g = w6.heap.size := ⟨_, rfl⟩
    have hBn : Blk (w6.alloc (.cells cs 23)) g 23 cs := Blk.new w6 23 cs hg
    have hbn : Below w.heap.size w (w6.alloc (.cells cs 23)) := H6.out.2.2.1.alloc (by have := H6.out.2.2.1.size; omega) _
    have hbn6 : Below w6.heap.size w6 (w6.alloc (.cells cs 23)) := (Below.refl _ _).alloc (Nat.le_refl _) _
    have HN := Lib.hid (And.intro hBn (And.intro hbn hbn6))
    have hgw : w6.heap.size ≤ g := by omega
    rw [← hg]
    clear hBn hbn hbn6 hg
    go_loopw [53] (fun iv wr => ∃ k : Nat, k ≤ 3 ∧ iv = .int .i64 k ∧ Blk wr g 23 cs ∧ Below w.heap.size w wr ∧ Below w6.heap.size w6 wr) (fun iv _ => 3 - (intOf iv).toNat)
    case atStart => exact ⟨0, Nat.zero_le _, rfl, HN.out⟩
    case round =>
      obtain ⟨k, hk, rfl, hB, hbw, hb6⟩ := hrel
      have HR := Lib.hid (And.intro hB (And.intro hbw hb6))
      have hcell := hB.cell k
      have hwsz := hB.lt
      clear hB hbw hb6
      by_cases hlt : k < 3
      · have l1 : (k : Int) < 3 := by omega
        obtain ⟨PA, pc, p, hpk, hPI, hpl, hpd, hpf⟩ := HV.out.1 k hlt
        rw [hpk] at hcell
        have HP := Lib.hid (And.intro hPI (And.intro hpl (And.intro hpd hpf)))
        clear hpk hPI hpl hpd hpf
        go_wp2_with fail
        refine (few2_any A n cap V _ H.out.1 hn9 (H.out.2.below HR.out.2.1)).mono ?_
        rintro e w7 ⟨A7, q7, c7, rfl, hq, hq67, hqc7, hc7, hM, hb⟩
        have H7 := Lib.hid (And.intro hq (And.intro hM (And.intro ((HP.out.1.below HR.out.2.2).below hb) (And.intro (HR.out.2.1.trans (hb.mono HR.out.2.1.size)) (And.intro (HR.out.2.2.trans (hb.mono HR.out.2.2.size)) (HR.out.1.below hb hwsz))))))
        clear hq hM hb
        go_wp2_with fail
        refine (sfair0_any A7 PA q7 c7 nk pc 1 (fewV V) p w7 H7.out.1 (by omega) H7.out.2.1 HP.out.2.1 (by omega) H7.out.2.2.1).mono ?_
        rintro e w8 h8
        unfold FairPost0 at h8
        rw [fewV_ok HV.out.2, HV.out.2, HP.out.2.2.1, H.out.1, HP.out.2.2.2] at h8
        simp only [Bool.true_and] at h8
        obtain ⟨rfl, hb8⟩ : e = .returned (.tuple #[.bool true, .int .i64 0]) ∧ Below w7.heap.size w7 w8 := by
          rcases h8 with ⟨h, _⟩ | ⟨_, h⟩
          · exact absurd h (by decide)
          · exact h
        have hwsz7 := H7.out.2.2.2.2.2.lt
        have H8 := Lib.hid (And.intro (H7.out.2.2.2.2.2.below hb8 hwsz7) (And.intro (H7.out.2.2.2.1.trans (hb8.mono H7.out.2.2.2.1.size)) (H7.out.2.2.2.2.1.trans (hb8.mono H7.out.2.2.2.2.1.size))))
        clear h8 hb8
        go_wp2_with fail
        go_round
        case rel => exact ⟨k + 1, by omega, by go_num, H8.out⟩
        case measure => simp [intOf]; omega
      · obtain rfl : k = 3 := by omega
        go_wp2_with fail
        refine (awake2_any w _ HR.out.2.1).mono ?_
        rintro e w10 ⟨rfl, hb10⟩
        have H10 := Lib.hid hb10
        clear hb10
        go_wp2_with fail
        go_ret
        exact ⟨rfl, H10.out⟩
end Go.Proofs.Ytkljambjdiblkaa
