/- Contract: orders of package games, called with the function of games.Shapley. -/
import Derived.Test.YtbidboagaoifaaaGrow3
import Derived.Laws.EntriesVeiled
namespace Go.Proofs.Ytbidboagaoifaaa
open Go.RowKit

set_option maxHeartbeats 800000 in
theorem orders_any (ac : Addr) (N cap n Bc Bk Bs S : Nat) (c : List Int) (sums : List Int) (w : World)
    (hn : n ≤ 4) (hn0 : 1 ≤ n) (hN : N = 2 ^ n) (hl : c.length = N) (hsl : sums.length = n) (hcb : ∀ x ∈ c, 0 ≤ x ∧ x ≤ 1000) (hsb : ∀ y ∈ sums, y = 0)
    (hL : (ext n n []).length ≤ 1000)
    (hc : ∀ i x, c[i]? = some x → w.cell? (ac.add i) = some (.int .i64 x)) (hac : ac.block < w.heap.size)
    (bc : Blk w Bc 3 #[.int .i64 0]) (bk : Blk w Bk 69 #[.slice (some ac) N cap]) (bs : Blk w Bs 22 #[.slice (some ⟨S, 0, none⟩) n n]) (bS : Blk w S 3 (arr sums))
    (n1 : ac.block ≠ Bc) (n2 : ac.block ≠ S) (n5 : S ≠ Bc) (m1 : Bs ≠ Bc) (m2 : Bs ≠ S) (m3 : Bk ≠ Bc) (m4 : Bk ≠ S) :
    Calls Try.prog 58 #[.slice (some ac) N cap, .func (.func 59) #[] #[.pointer (some ⟨Bc, 0, none⟩), .pointer (some ⟨Bk, 0, none⟩), .pointer (some ⟨Bs, 0, none⟩)]] w fun e w' =>
      e = .returned (.tuple #[]) ∧ Blk w' Bc 3 #[.int .i64 ((ext n n []).length : Nat)] ∧ Blk w' S 3 (arr (addAll c n sums (ext n n []))) ∧ (∀ y ∈ addAll c n sums (ext n n []), -1000000 ≤ y ∧ y ≤ 1000000) ∧ Kept w.heap.size [Bc, S] w w' := by
  obtain ⟨X, hX⟩ : ∃ X : GX, X = { ac := ac, N := N, cap := cap, n := n, Bc := Bc, Bk := Bk, Bs := Bs, S := S, Bo := w.heap.size + 1 + 1, Bcb := w.heap.size, Bfb := w.heap.size + 1, Bg := w.heap.size + 1 + 1 + 1, base := w.heap.size + 4, c := c } := ⟨_, rfl⟩
  have l1 := bc.lt
  have l2 := bk.lt
  have l3 := bs.lt
  have l4 := bS.lt
  have hx : X.ok := by
    subst hX
    exact ⟨hn, hn0, hN, hl, hcb, n1, n2, by show ac.block ≠ w.heap.size + 1 + 1; omega, by show ac.block < w.heap.size + 4; omega, by
      intro x hx
      simp only [List.mem_cons, List.not_mem_nil, or_false] at hx ⊢
      rcases hx with rfl | rfl | rfl | rfl | rfl <;> simp <;> omega, by show w.heap.size + 1 + 1 ≠ Bc; omega, by show w.heap.size + 1 + 1 ≠ S; omega, n5, by
      intro x hx
      simp only [List.mem_cons, List.not_mem_nil, or_false] at hx
      rcases hx with rfl | rfl | rfl | rfl | rfl | rfl | rfl | rfl <;> simp <;> omega⟩
  have HX := Lib.hid hX
  have H := Lib.hid (And.intro hx (And.intro hc (And.intro hac (And.intro bc (And.intro bk (And.intro bs (And.intro bS (And.intro hsl (And.intro hsb hL)))))))))
  clear hx hc bc bk bs bS hX hN hl hcb hsl hsb hL
  go_enter Try.func58, Try.ntmps58
  go_wp2_with fail
  have hX := HX.out
  obtain ⟨hx, hc, hac, bc, bk, bs, bS, hsl, hsb, hL⟩ := H.out
  subst hX
  have K4 : ∀ o1 o2 o3 o4, Below w.heap.size w ((((w.alloc o1).alloc o2).alloc o3).alloc o4) := fun o1 o2 o3 o4 =>
    ((((Below.refl _ _).alloc (by go_size) _).alloc (by go_size) _).alloc (by go_size) _).alloc (by go_size) _
  refine (grow_any _ hx n [] 0 sums _ (by simp) (by simp) ?fix ?acc ?pre (by show (0 : Int) + ((ext n n []).length : Nat) ≤ 1000; omega)).mono ?_
  case fix =>
    exact {
      size := by simp
      bcb := (((Blk.new _ _ _ rfl).alloc _).alloc _).alloc _
      bfb := ((Blk.new _ _ _ (by simp)).alloc _).alloc _
      bg := Blk.new _ _ _ (by simp)
      bk := bk.below (K4 _ _ _ _) l2
      bs := bs.below (K4 _ _ _ _) l3
      hc := fun i x hi => ((K4 _ _ _ _).cell (lt_of_cell (hc i x hi))).trans (hc i x hi) }
  case acc => exact ⟨bc.below (K4 _ _ _ _) l1, bS.below (K4 _ _ _ _) l4, by omega, hsl, fun y hy => by have := hsb y hy; omega⟩
  case pre => exact ⟨none, 0, (Blk.new _ _ _ (by simp)).alloc _, World.ownsRow_nil _ _ _ _, by simp, by omega⟩
  rintro e w' ⟨rfl, hp⟩
  have HP := Lib.hid (And.intro hp (K4 (.cells #[.slice (some ac) N cap] 69) (.cells #[.func (.func 59) #[] #[.pointer (some ⟨Bc, 0, none⟩), .pointer (some ⟨Bk, 0, none⟩), .pointer (some ⟨Bs, 0, none⟩)]] 72) (.cells #[.slice none 0 0] 22) (.cells #[.func (.func 85) #[] #[.pointer (some ⟨w.heap.size + 1 + 1, 0, none⟩), .pointer (some ⟨w.heap.size, 0, none⟩), .pointer (some ⟨w.heap.size + 1, 0, none⟩), .pointer (some ⟨w.heap.size + 1 + 1 + 1, 0, none⟩)]] 1)))
  clear hp hx hc hac bc bk bs bS hsl hsb hL
  go_wp2
  go_end0
  obtain ⟨hp, hb⟩ := HP.out
  obtain ⟨_, _, _, _, _, _, _, _, _, hL⟩ := H.out
  refine ⟨rfl, by simpa using hp.acc.bc, hp.acc.bS, fun y hy => by have h1 : -(1000 * (0 + ((ext n n []).length : Int))) ≤ y ∧ y ≤ 1000 * (0 + ((ext n n []).length : Int)) := hp.acc.sb y hy; omega, (Kept.of_below hb _).trans (hp.kept.mono (by simp) ?_)⟩
  intro x hx
  simp only [List.mem_cons, List.not_mem_nil, or_false] at hx ⊢
  rcases hx with rfl | rfl | rfl
  · exact .inr (by show w.heap.size ≤ w.heap.size + 1 + 1; omega)
  · exact .inl (.inl rfl)
  · exact .inl (.inr rfl)
end Go.Proofs.Ytbidboagaoifaaa
