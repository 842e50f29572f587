/- Contracts: share, Share and Split of package split. -/
import Derived.Test.YtkljambjdiblkaaSTry2
import Derived.Test.YtkljambjdiblkaaSOne
import Derived.Test.YtkljambjdiblkaaSEach
import Derived.Laws.EntriesVeiled
namespace Go.Proofs.Ytkljambjdiblkaa
open Go.RowKit

/-- What share leaves. -/
def SharPost (l : List Int) (n : Nat) (w : World) (e : Ending) (w' : World) : Prop :=
  ∃ (g c : Nat) (p : List Int), e = .returned (.tuple #[.int .i64 (shV l n), .slice (some ⟨g, 0, none⟩) l.length c]) ∧ l.length ≤ c ∧ c ≤ 9223372036854775807 ∧ p.length = l.length ∧ (∀ x ∈ p, 0 ≤ x ∧ x < n) ∧ Ints w' (some ⟨g, 0, none⟩) p ∧ lmin (sumsTo l p n l.length) = shV l n ∧ Below w.heap.size w w'

set_option maxRecDepth 100000 in
set_option maxHeartbeats 3200000 in
theorem shar_any (A : Option Addr) (m cap n : Nat) (l : List Int) (w : World) (hl : l.length = m) (hm : 1 ≤ m ∧ m ≤ 7) (hn : 1 ≤ n ∧ n ≤ 7) (hlb : ∀ x ∈ l, 0 ≤ x ∧ x ≤ 100) (hI : Ints w A l) :
    Calls Try.prog 58 #[.slice A m cap, .int .i64 n] w (SharPost l n w) := by
  obtain ⟨ad, rfl, _⟩ := hI.some_ (by omega)
  obtain ⟨X, hX⟩ : ∃ X : SX, X = { w0 := w, ad := ad, B := w.heap.size, m := m, n := n, cap := cap, l := l } := ⟨_, rfl⟩
  have hok : X.ok := by rw [hX]; exact ⟨rfl, hm, hn, hl, hlb, hI⟩
  have hmk := make_div m (by omega)
  have hmk2 := make_ints n (by omega)
  have e1 : X.B = w.heap.size := by rw [hX]
  have e2 : X.m = m := by rw [hX]
  have e3 : X.n = n := by rw [hX]
  have e4 : X.l = l := by rw [hX]
  have e5 : X.cap = cap := by rw [hX]
  have e6 : X.ad = ad := by rw [hX]
  have e7 : X.w0 = w := by rw [hX]
  have hcall : ∀ W : World, X.st (List.replicate m 0) (List.replicate n 0) (-1) W → Calls Try.prog 92 #[.int .i64 0, .int .i64 0, .pointer (some ⟨w.heap.size, 0, none⟩), .pointer (some ⟨w.heap.size + 1 + 1 + 1 + 1 + 1 + 1 + 1, 0, none⟩), .pointer (some ⟨w.heap.size + 1 + 1, 0, none⟩), .pointer (some ⟨w.heap.size + 1 + 1 + 1 + 1 + 1, 0, none⟩), .pointer (some ⟨w.heap.size + 1 + 1 + 1, 0, none⟩), .pointer (some ⟨w.heap.size + 1, 0, none⟩), .pointer (some ⟨w.heap.size + 1 + 1 + 1 + 1 + 1 + 1 + 1 + 1, 0, none⟩)] W (X.post 0 0 (List.replicate m 0) (List.replicate n 0) (-1)) := by
    intro W hW
    have h := try_any X hok m 0 0 (List.replicate m 0) (List.replicate n 0) (-1) W (by omega) (by omega) hW (by rw [e3]; rfl) (fun i hi => by omega)
    rw [e1] at h
    exact h
  have hst : ∀ F : Value, F = .func (.func 92) #[] X.caps → X.st (List.replicate m 0) (List.replicate n 0) (-1) (((((((((w.alloc (.cells #[.slice (some ad) m cap] 23)).alloc (.cells #[.int .i64 n] 3)).alloc (.cells #[.int .i64 (-1)] 3)).alloc (.cells #[.slice none 0 0] 64)).alloc (.cells (arr (List.replicate m 0)) 3)).alloc
      (.cells #[.slice (some ⟨w.heap.size + 1 + 1 + 1 + 1, 0, none⟩) m m] 64)).alloc (.cells (arr (List.replicate n 0)) 3)).alloc (.cells #[.slice (some ⟨w.heap.size + 1 + 1 + 1 + 1 + 1 + 1, 0, none⟩) n n] 23)).alloc (.cells #[F] 95)) := by
    intro F hF
    subst hF
    refine ⟨?_, ?_, ?_, ?_, ?_, ?_, ?_, ?_, ⟨.slice none 0 0, ?_, .inl ⟨rfl, rfl⟩⟩, ?_, by rw [List.length_replicate, e2], by rw [List.length_replicate, e3], by omega⟩
    · rw [e1, e2, e5, e6]; exact ((((((((Blk.new _ _ _ rfl).alloc _).alloc _).alloc _).alloc _).alloc _).alloc _).alloc _).alloc _
    · rw [e1, e3]; exact (((((((Blk.new _ _ _ (by simp)).alloc _).alloc _).alloc _).alloc _).alloc _).alloc _).alloc _
    · rw [e1]; exact ((((((Blk.new _ _ _ (by simp)).alloc _).alloc _).alloc _).alloc _).alloc _).alloc _
    · rw [e1]; exact ((((Blk.new _ _ _ (by simp)).alloc _).alloc _).alloc _).alloc _
    · rw [e1, e2]; exact (((Blk.new _ _ _ (by simp)).alloc _).alloc _).alloc _
    · rw [e1]; exact ((Blk.new _ _ _ (by simp)).alloc _).alloc _
    · rw [e1, e3]; exact (Blk.new _ _ _ (by simp)).alloc _
    · rw [e1]; exact Blk.new _ _ _ (by simp)
    · rw [e1]; exact (((((Blk.new _ _ _ (by simp)).alloc _).alloc _).alloc _).alloc _).alloc _
    · rw [e1, e7]
      exact (((((((((Below.refl _ _).alloc (Nat.le_refl _) _).alloc (by go_size) _).alloc (by go_size) _).alloc (by go_size) _).alloc (by go_size) _).alloc (by go_size) _).alloc (by go_size) _).alloc (by go_size) _).alloc (by go_size) _
  have hcaps : Value.func (.func 92) #[] #[.pointer (some ⟨w.heap.size, 0, none⟩), .pointer (some ⟨w.heap.size + 1 + 1 + 1 + 1 + 1 + 1 + 1, 0, none⟩), .pointer (some ⟨w.heap.size + 1 + 1, 0, none⟩), .pointer (some ⟨w.heap.size + 1 + 1 + 1 + 1 + 1, 0, none⟩), .pointer (some ⟨w.heap.size + 1 + 1 + 1, 0, none⟩), .pointer (some ⟨w.heap.size + 1, 0, none⟩), .pointer (some ⟨w.heap.size + 1 + 1 + 1 + 1 + 1 + 1 + 1 + 1, 0, none⟩)] = .func (.func 92) #[] X.caps := by
    unfold SX.caps; rw [e1]
  have hshv : max (-1) (sh (X.l.drop 0) (List.replicate n 0) 0) = shV l n := by
    have h := shV_nonneg (l := l) (n := n) hn.1 (fun x hx => (hlb x hx).1)
    rw [e4, List.drop_zero]
    exact Int.max_eq_right (by unfold shV at h; omega)
  have hv0 := shV_nonneg (l := l) (n := n) hn.1 (fun x hx => (hlb x hx).1)
  have H := Lib.hid (And.intro hcall (And.intro (hst _ hcaps) (And.intro hl (And.intro e1 (And.intro e2 (And.intro e3 (And.intro e4 (And.intro e7 (And.intro hshv hv0)))))))))
  clear hX hok hl hlb hI e1 e2 e3 e4 e5 e6 e7 hcall hst hshv hv0 hcaps
  go_enter Try.func58, Try.ntmps58
  go_wp2_with fail
  refine (H.out.1 _ H.out.2.1).mono ?_
  rintro e w1 ⟨rfl, dl, _, hst⟩
  obtain ⟨_, _, hl, e1, e2, e3, e4, e7, hshv, hv0⟩ := H.out
  rw [hshv] at hst
  have hb := hst.bb
  obtain ⟨pv, hp, hf⟩ := hst.fnd
  obtain ⟨v, hv⟩ : ∃ v, v = shV l n := ⟨_, rfl⟩
  rw [← hv] at hb hf hv0
  have hbel := hst.bel
  rcases hf with ⟨hf, _⟩ | ⟨g, c, p, h1, rfl, h3, h4, h5, h6, h7, h8, h9⟩
  · omega
  · rw [e2] at h3 h6
    rw [e2] at hp
    rw [e1] at hb hp h5 hbel
    rw [e3] at h7
    rw [e4, e3, e2] at h9
    rw [e7] at hbel
    obtain ⟨a1, b1⟩ := hb.at1
    obtain ⟨a2, b2⟩ := hp.at1
    have HF := Lib.hid (And.intro hb (And.intro hp (And.intro h6 (And.intro h7 (And.intro h8 (And.intro h9 (And.intro hbel (And.intro hv hl))))))))
    clear hl e1 e2 e3 e4 e7 hshv hst hb hp hbel h6 h7 h8 h9 hv
    go_wp2_with fail
    go_region
    have a3 : (((w1.setCell ⟨w.heap.size + 1 + 1, 0, none⟩ (.int .i64 v)).setCell ⟨w.heap.size + 1 + 1 + 1, 0, none⟩ (.slice (some ⟨g, 0, none⟩) m c)).drew).cell? ⟨w.heap.size + 1 + 1, 0, none⟩ = some (.int .i64 v) := ((HF.out.1.set_ 0 _).far (by show w.heap.size + 2 ≠ w.heap.size + 1 + 1 + 1; omega) _).at1.1
    have a4 : (((w1.setCell ⟨w.heap.size + 1 + 1, 0, none⟩ (.int .i64 v)).setCell ⟨w.heap.size + 1 + 1 + 1, 0, none⟩ (.slice (some ⟨g, 0, none⟩) m c)).drew).cell? ⟨w.heap.size + 1 + 1 + 1, 0, none⟩ = some (.slice (some ⟨g, 0, none⟩) m c) := ((HF.out.2.1.far (by show w.heap.size + 3 ≠ w.heap.size + 1 + 1; omega) _).set_ 0 _).at1.1
    have hI : Ints (((w1.setCell ⟨w.heap.size + 1 + 1, 0, none⟩ (.int .i64 v)).setCell ⟨w.heap.size + 1 + 1 + 1, 0, none⟩ (.slice (some ⟨g, 0, none⟩) m c)).drew) (some ⟨g, 0, none⟩) p := ints_far (ints_far HF.out.2.2.2.2.1 (fun ad ha => by injection ha with ha; subst ha; show g ≠ w.heap.size + 1 + 1; omega) _) (fun ad ha => by injection ha with ha; subst ha; show g ≠ w.heap.size + 1 + 1 + 1; omega) _
    have hB : Below w.heap.size w (((w1.setCell ⟨w.heap.size + 1 + 1, 0, none⟩ (.int .i64 v)).setCell ⟨w.heap.size + 1 + 1 + 1, 0, none⟩ (.slice (some ⟨g, 0, none⟩) m c)).drew) := ((HF.out.2.2.2.2.2.2.1.setCell (by show w.heap.size ≤ w.heap.size + 1 + 1; omega) _).setCell (by show w.heap.size ≤ w.heap.size + 1 + 1 + 1; omega) _).drew
    generalize (((w1.setCell ⟨w.heap.size + 1 + 1, 0, none⟩ (.int .i64 v)).setCell ⟨w.heap.size + 1 + 1 + 1, 0, none⟩ (.slice (some ⟨g, 0, none⟩) m c)).drew) = w2 at a3 a4 hI hB ⊢
    have HG := Lib.hid (And.intro hI hB)
    clear hI hB a1 b1 a2 b2
    go_wp2_with fail
    refine bodyPost_ret (v := .tuple #[.int .i64 v, .slice (some ⟨g, 0, none⟩) m c]) (by simp [results, Try.results58, go_sem, a3, a4]) rfl ?_
    refine ⟨g, c, p, ?_, ?_, h4, ?_, HF.out.2.2.2.1, HG.out.1, ?_, HG.out.2⟩
    · rw [HF.out.2.2.2.2.2.2.2.2, ← HF.out.2.2.2.2.2.2.2.1]
    · rw [HF.out.2.2.2.2.2.2.2.2]; exact h3
    · rw [HF.out.2.2.2.2.2.2.2.2]; exact HF.out.2.2.1
    · rw [HF.out.2.2.2.2.2.2.2.2, HF.out.2.2.2.2.2.1]; exact HF.out.2.2.2.2.2.2.2.1

theorem goodL_iff {l : List Int} {n : Int} : goodL l n = true ↔ (1 ≤ l.length ∧ l.length ≤ 7) ∧ (∀ x ∈ l, 0 ≤ x ∧ x ≤ 100) ∧ 1 ≤ n ∧ n ≤ 7 := by
  unfold goodL
  simp only [Bool.and_eq_true, decide_eq_true_eq, List.all_eq_true, in100]
  constructor
  · rintro ⟨⟨⟨⟨a, b⟩, c⟩, d⟩, e⟩; exact ⟨⟨a, b⟩, c, d, e⟩
  · rintro ⟨⟨a, b⟩, c, d, e⟩; exact ⟨⟨⟨⟨a, b⟩, c⟩, d⟩, e⟩

/-- What Share leaves. -/
def SharePost (l : List Int) (n : Int) (w : World) (e : Ending) (w' : World) : Prop :=
  (goodL l n = false ∧ e = .returned (.tuple #[.int .i64 0, .int .i64 2]) ∧ Below w.heap.size w w') ∨
  (goodL l n = true ∧ e = .returned (.tuple #[.int .i64 (shV l n.toNat), .int .i64 0]) ∧ Below w.heap.size w w')
/-- What Split leaves. -/
def SplitPost (l : List Int) (n : Int) (w : World) (e : Ending) (w' : World) : Prop :=
  (goodL l n = false ∧ e = .returned (.tuple #[.slice none 0 0, .int .i64 2]) ∧ Below w.heap.size w w') ∨
  (goodL l n = true ∧ ∃ (g c : Nat) (p : List Int), e = .returned (.tuple #[.slice (some ⟨g, 0, none⟩) l.length c, .int .i64 0]) ∧ l.length ≤ c ∧ c ≤ 9223372036854775807 ∧ p.length = l.length ∧ (∀ x ∈ p, 0 ≤ x ∧ x < n) ∧ Ints w' (some ⟨g, 0, none⟩) p ∧ lmin (sumsTo l p n.toNat l.length) = shV l n.toNat ∧ Below w.heap.size w w')

set_option maxHeartbeats 1600000 in
theorem share_any (A : Option Addr) (m cap : Nat) (n : Int) (l : List Int) (w : World) (hl : l.length = m) (hm : m ≤ 9223372036854775807) (hI : Ints w A l) :
    Calls Try.prog 25 #[.slice A m cap, .int .i64 n] w (SharePost l n w) := by
  have H := Lib.hid (And.intro hl hI)
  clear hl hI
  go_enter Try.func25, Try.ntmps25
  go_wp2_with fail
  refine (one_any A m cap n l _ H.out.1 hm H.out.2).mono ?_
  rintro e w1 ⟨rfl, rfl⟩
  cases hg : goodL l n
  · have HG := Lib.hid hg
    clear hg
    go_wp2_with fail
    go_ret2
    exact .inl ⟨HG.out, rfl, Below.refl _ _⟩
  · obtain ⟨h1, h2, h3, h4⟩ := goodL_iff.1 hg
    obtain ⟨nn, rfl⟩ : ∃ nn : Nat, n = (nn : Int) := ⟨n.toNat, by omega⟩
    have HG := Lib.hid (And.intro hg (And.intro h1 h2))
    clear hg h1 h2
    go_wp2_with fail
    refine (shar_any A m cap nn l _ H.out.1 (by rw [← H.out.1]; exact HG.out.2.1) (by omega) HG.out.2.2 H.out.2).mono ?_
    rintro e w2 ⟨g, c, p, rfl, _, _, _, _, _, _, hb⟩
    have HB := Lib.hid hb
    clear hb
    generalize hv : shV l nn = v
    have HV := Lib.hid hv
    clear hv
    go_wp2_with fail
    go_ret2
    exact .inr ⟨HG.out.1, by rw [Int.toNat_natCast, HV.out]; rfl, HB.out⟩

set_option maxHeartbeats 1600000 in
theorem split_any (A : Option Addr) (m cap : Nat) (n : Int) (l : List Int) (w : World) (hl : l.length = m) (hm : m ≤ 9223372036854775807) (hI : Ints w A l) :
    Calls Try.prog 26 #[.slice A m cap, .int .i64 n] w (SplitPost l n w) := by
  have H := Lib.hid (And.intro hl hI)
  clear hl hI
  go_enter Try.func26, Try.ntmps26
  go_wp2_with fail
  refine (one_any A m cap n l _ H.out.1 hm H.out.2).mono ?_
  rintro e w1 ⟨rfl, rfl⟩
  cases hg : goodL l n
  · have HG := Lib.hid hg
    clear hg
    go_wp2_with fail
    go_ret2
    exact .inl ⟨HG.out, rfl, Below.refl _ _⟩
  · obtain ⟨h1, h2, h3, h4⟩ := goodL_iff.1 hg
    obtain ⟨nn, rfl⟩ : ∃ nn : Nat, n = (nn : Int) := ⟨n.toNat, by omega⟩
    have HG := Lib.hid (And.intro hg (And.intro h1 h2))
    clear hg h1 h2
    go_wp2_with fail
    refine (shar_any A m cap nn l _ H.out.1 (by rw [← H.out.1]; exact HG.out.2.1) (by omega) HG.out.2.2 H.out.2).mono ?_
    rintro e w2 ⟨g, c, p, rfl, q1, q2, q3, q4, q5, q6, hb⟩
    have HB := Lib.hid (And.intro q1 (And.intro q2 (And.intro q3 (And.intro q4 (And.intro q5 (And.intro q6 hb))))))
    clear q1 q2 q3 q4 q5 q6 hb
    generalize hv : shV l nn = v
    generalize hll : l.length = ll
    have HV := Lib.hid (And.intro hv hll)
    clear hv hll
    go_wp2_with fail
    go_ret2
    obtain ⟨q1, q2, q3, q4, q5, q6, hb⟩ := HB.out
    exact .inr ⟨HG.out.1, g, c, p, by rw [HV.out.2]; rfl, q1, q2, q3, q4, q5, by rw [Int.toNat_natCast]; exact q6, hb⟩
end Go.Proofs.Ytkljambjdiblkaa
