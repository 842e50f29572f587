/- Contract: Nash of package split. -/
import Derived.Test.YtkljambjdiblkaaSNash1
import Derived.Test.YtkljambjdiblkaaSValid
import Derived.Test.YtkljambjdiblkaaEqualI
namespace Go.Proofs.Ytkljambjdiblkaa
open Go.RowKit

/-- Which division Nash takes. -/
def nashB (V : List (List Int)) : Nat := bst (fun t => nashS V (dz V.length (rowV V 0).length t) V.length) (V.length ^ (rowV V 0).length)

theorem ent_nash1 : Ent 77 := ent_of Try.func77 (by kernel_rfl) (by kernel_rfl)

theorem valV_rows {V : List (List Int)} {m : Nat} (h : valV V = true) (hm : m = (rowV V 0).length) : ∀ i, i < V.length → (rowV V i).length = m ∧ ∀ x ∈ rowV V i, 0 ≤ x ∧ x ≤ 100 := by
  intro i hi
  obtain ⟨_, _, h3⟩ := valV_iff.1 h
  have e : rowV V i = V[i]'hi := rowV_get (List.getElem?_eq_getElem hi)
  rw [e, hm]
  exact h3 _ (List.getElem_mem hi)

/-- What Nash leaves. -/
def NashPost (V : List (List Int)) (w : World) (e : Ending) (w' : World) : Prop :=
  (valV V = false ∧ e = .returned (.tuple #[.slice none 0 0, .int .i64 0, .int .i64 2]) ∧ Below w.heap.size w w') ∨
  (valV V = true ∧ ∃ A c, e = .returned (.tuple #[.slice (some A) (rowV V 0).length c, .int .i64 (posP (ownV V (dz V.length (rowV V 0).length (nashB V)) V.length)), .int .i64 0]) ∧
    (rowV V 0).length ≤ c ∧ c ≤ 9223372036854775807 ∧ Ints w' (some A) (dz V.length (rowV V 0).length (nashB V)) ∧ Below w.heap.size w w')

set_option maxRecDepth 100000 in
set_option maxHeartbeats 1600000 in
theorem nash_any (A : Option Addr) (n cap : Nat) (V : List (List Int)) (w : World) (hl : V.length = n) (hn : n ≤ 9223372036854775807) (hV : Mat w A V) :
    Calls Try.prog 43 #[.slice A n cap] w (NashPost V w) := by
  have hp : ∀ o, Blk (w.alloc (.cells #[o] 61)) w.heap.size 61 #[o] := fun o => Blk.new w 61 #[o] rfl
  have hz1 : ∀ o, (w.alloc o).heap.size = w.heap.size + 1 := fun o => by simp
  have H := Lib.hid (And.intro hl (And.intro hV (And.intro hp hz1)))
  clear hV hp hz1
  go_enter Try.func43, Try.ntmps43
  go_wp2_with fail
  refine (svalid_any A n cap V _ H.out.1 hn (H.out.2.1.below ((Below.refl _ _).alloc (Nat.le_refl _) _))).mono ?_
  rintro e w1 ⟨rfl, hb1⟩
  obtain ⟨b, hb⟩ : ∃ b, b = valV V := ⟨_, rfl⟩
  rw [← hb]
  have hBlk : Blk w1 w.heap.size 61 #[.slice A n cap] := (H.out.2.2.1 _).below hb1 (by go_size)
  have hbl1 : Below w.heap.size w w1 := ((Below.refl w.heap.size w).alloc (Nat.le_refl _) _).trans (hb1.mono (by go_size))
  have hw1 := hb1.size
  have c1 := hBlk.at1.1
  have HB := Lib.hid (And.intro hb (And.intro hBlk hbl1))
  clear hb hb1 hBlk hbl1
  cases b
  · go_wp2_with fail
    go_ret3
    exact .inl ⟨HB.out.1.symm, rfl, HB.out.2.2⟩
  · have hv1 := valV_iff.1 HB.out.1.symm
    have hn4 : 1 ≤ n ∧ n ≤ 4 := by rw [← hl]; exact hv1.1
    obtain ⟨m, hm⟩ : ∃ m, m = (rowV V 0).length := ⟨_, rfl⟩
    have hm7 : 1 ≤ m ∧ m ≤ 7 := by rw [hm]; exact hv1.2.1
    have HR := Lib.hid (And.intro hm (valV_rows HB.out.1.symm hm))
    clear hv1 hm
    go_wp2_with fail
    refine (best_any A n cap m V 77 #[.pointer (some ⟨w.heap.size, 0, none⟩)] (fun t => nashS V (dz n m t) n) w1 ent_nash1 (fun t => by simp [nashS]) H.out.1 hn4 HR.out.1 hm7 (H.out.2.1.below HB.out.2.2) ?hs).mono ?_
    case hs =>
      intro t w' ht hb' hB
      have hw := hb'.size
      refine nash1_any A n cap (some ⟨w1.heap.size + 3, 0, none⟩) m m w.heap.size V (dz n m t) w' ?_ H.out.1 hn4.2 (dz_length _ _ _) hm7.2 (by rw [← H.out.1]; exact HR.out.2) ((H.out.2.1.below HB.out.2.2).below hb') (blk_ints hB)
      exact (HB.out.2.1.below hb' HB.out.2.1.lt).at1.1
    rintro e w2 ⟨A2, c2, Am, cm, rfl, g1, g2, g3, g4, g5, g6, g7⟩
    obtain ⟨ad, rfl, hc⟩ := g6 1 (.int .i64 (posP (ownV V (dz n m (bst (fun t => nashS V (dz n m t) n) (n ^ m))) n))) rfl
    have HF := Lib.hid (And.intro g3 g7)
    have hlen : (nashS V (dz n m (bst (fun t => nashS V (dz n m t) n) (n ^ m))) n).length = 2 := rfl
    rw [hlen] at g4 ⊢
    clear g3 g6 g7 hlen
    have hbb : nashB V = bst (fun t => nashS V (dz n m t) n) (n ^ m) := by unfold nashB; rw [H.out.1, ← HR.out.1]
    have HBB := Lib.hid hbb
    clear hbb
    generalize bst (fun t => nashS V (dz n m t) n) (n ^ m) = bb at *
    obtain ⟨pp, hpp⟩ : ∃ pp, pp = posP (ownV V (dz n m bb) n) := ⟨_, rfl⟩
    rw [← hpp] at hc
    have HPP := Lib.hid hpp
    clear hpp
    have hc3 : w2.cell? ⟨ad.block, ad.off + 1, none⟩ = some (.int .i64 pp) := hc
    go_wp2_with fail
    go_quiet (fail)
    go_wp2_with fail
    go_ret3
    refine .inr ⟨HB.out.1.symm, A2, c2, ?_, by rw [← HR.out.1]; exact g1, g2, ?_, HB.out.2.2.trans (below_drewN (HF.out.2.mono HB.out.2.2.size) _)⟩
    · rw [H.out.1, ← HR.out.1, HBB.out, ← HPP.out]; rfl
    · rw [H.out.1, ← HR.out.1, HBB.out]; exact HF.out.1

theorem nash_31 : nashB [[3, 1], [1, 3]] = 1 ∧ valV [[3, 1], [1, 3]] = true ∧ posP (ownV [[3, 1], [1, 3]] (dz 2 2 1) 2) = 9 ∧ dz 2 2 1 = [0, 1] := by decide +kernel

theorem mat_31 (w : World) : Mat (((w.alloc (.cells #[.int .i64 3, .int .i64 1] 3)).alloc (.cells #[.int .i64 1, .int .i64 3] 3)).alloc (.cells #[.slice (some ⟨w.heap.size, 0, none⟩) 2 2, .slice (some ⟨w.heap.size + 1, 0, none⟩) 2 2] 23)) (some ⟨w.heap.size + 1 + 1, 0, none⟩) [[3, 1], [1, 3]] := by
  have b1 : Blk (((w.alloc (.cells #[.int .i64 3, .int .i64 1] 3)).alloc (.cells #[.int .i64 1, .int .i64 3] 3)).alloc (.cells #[.slice (some ⟨w.heap.size, 0, none⟩) 2 2, .slice (some ⟨w.heap.size + 1, 0, none⟩) 2 2] 23)) w.heap.size 3 (arr [3, 1]) := ((Blk.new w 3 _ rfl).alloc _).alloc _
  have b2 : Blk (((w.alloc (.cells #[.int .i64 3, .int .i64 1] 3)).alloc (.cells #[.int .i64 1, .int .i64 3] 3)).alloc (.cells #[.slice (some ⟨w.heap.size, 0, none⟩) 2 2, .slice (some ⟨w.heap.size + 1, 0, none⟩) 2 2] 23)) (w.heap.size + 1) 3 (arr [1, 3]) := (Blk.new _ 3 _ (by simp)).alloc _
  have b3 : Blk (((w.alloc (.cells #[.int .i64 3, .int .i64 1] 3)).alloc (.cells #[.int .i64 1, .int .i64 3] 3)).alloc (.cells #[.slice (some ⟨w.heap.size, 0, none⟩) 2 2, .slice (some ⟨w.heap.size + 1, 0, none⟩) 2 2] 23)) (w.heap.size + 1 + 1) 23 #[.slice (some ⟨w.heap.size, 0, none⟩) 2 2, .slice (some ⟨w.heap.size + 1, 0, none⟩) 2 2] := Blk.new _ 23 _ (by simp)
  intro j r hj
  match j with
  | 0 => injection hj with hj; subst hj; exact ⟨_, _, 2, rfl, b3.at2.1, by simp, by omega, blk_ints b1⟩
  | 1 => injection hj with hj; subst hj; exact ⟨_, _, 2, rfl, b3.at2.2.1, by simp, by omega, blk_ints b2⟩
  | j + 2 => simp at hj

set_option maxHeartbeats 1600000 in
theorem awake_any (w : World) : Calls Try.prog 22 #[] w fun e w' => e = .returned (.bool true) ∧ Below w.heap.size w w' := by
  have HM := Lib.hid (mat_31 w)
  obtain ⟨n1, n2, n3, n4⟩ := nash_31
  go_enter Try.func22, Try.ntmps22
  go_wp2_with fail
  refine (nash_any _ 2 2 [[3, 1], [1, 3]] _ rfl (by omega) HM.out).mono ?_
  rintro e w1 (⟨h, _⟩ | ⟨_, A1, c1, rfl, hc1, hc2, hI, hb⟩)
  · rw [n2] at h; cases h
  have e1 : (rowV [[3, 1], [1, 3]] 0).length = 2 := rfl
  have e2 : ([[3, 1], [1, 3]] : List (List Int)).length = 2 := rfl
  rw [n1, e1, e2, n4] at hI
  rw [n1, e1, e2, n3]
  have H1 := Lib.hid (And.intro hI hb)
  clear hI hb n1 n2 n3 n4 e1 e2
  go_wp2_with fail
  have hG : Ints (w1.alloc (.cells #[.int .i64 0, .int .i64 1] 3)) (some ⟨w1.heap.size, 0, none⟩) [0, 1] := blk_ints (Blk.new w1 3 (arr [0, 1]) rfl)
  refine (equal_any (some A1) (some ⟨w1.heap.size, 0, none⟩) 2 2 c1 2 [0, 1] [0, 1] _ rfl rfl (by omega) (H1.out.1.below ((Below.refl _ _).alloc (by go_size) _)) hG).mono ?_
  rintro e w2 ⟨rfl, kd, rfl⟩
  have e1 : eqB ([0, 1] : List Int) [0, 1] = true := by decide
  rw [e1]
  have H2 := Lib.hid ((((((Below.refl w.heap.size w).alloc (Nat.le_refl _) _).alloc (by go_size) _).alloc (by go_size) _).trans (H1.out.2.mono (by go_size))).alloc (by have := H1.out.2.size; simp at this; omega) (.cells #[.int .i64 0, .int .i64 1] 3))
  clear hG
  go_wp2
  go_ret
  exact ⟨rfl, below_drewN H2.out _⟩
end Go.Proofs.Ytkljambjdiblkaa
