/- Contracts: orders of package vote and the function it hands back. -/
import Derived.Test.YtpoibiakfjkebaaVGrow
import Derived.Laws.EntriesVeiled
namespace Go.Proofs.Ytpoibiakfjkebaa
open Go.RowKit Go.Shelf

attribute [local go_sem] Oper.semAt_some

theorem vorders_any (A : Option Addr) (n cap : Nat) (w : World) :
    Calls Try.prog 27 #[.slice A n cap] w fun e w' => e = .returned (.func (.func 49) #[] #[.pointer (some ⟨w.heap.size, 0, none⟩)]) ∧ w' = w.alloc (.cells #[.slice A n cap] 23) := by
  go_enter Try.func27, Try.ntmps27
  go_wp2_with fail
  go_ret
  exact ⟨rfl, rfl⟩

set_option maxRecDepth 100000 in
set_option maxHeartbeats 2000000 in
theorem vorders1_any (X : OX) (hx : X.ok) (J : List (List Nat) → Nat → World → Prop) (Jx : List (List Nat) → World → Prop) (hJ : X.Ab J) (hY : X.Rd J Jx (Mid.allO X.n).length) (nn : Nat) (W : World) (hn0 : X.n0 = W.heap.size)
    (hnb : W.cell? ⟨X.Bn, 0, none⟩ = some (.slice (some X.An) X.n X.cn)) (hnm : Ints W (some X.An) (intL (List.range X.n))) (h0 : J [] X.n0 W) :
    CallsIn Fence.wide nn Try.prog 49 #[.func (.yield X.l) #[] #[], .pointer (some ⟨X.Bn, 0, none⟩)] W fun e W' => (∃ v, e = .returned v) ∧ ((∃ o', J (Mid.allO X.n) o' W') ∨ ∃ q, q <+: Mid.allO X.n ∧ Jx q W') := by
  have hcaps : X.caps = #[.pointer (some ⟨W.heap.size + 1, 0, none⟩), .pointer (some ⟨X.Bn, 0, none⟩), .pointer (some ⟨W.heap.size, 0, none⟩), .pointer (some ⟨W.heap.size + 1 + 1, 0, none⟩)] := by
    unfold OX.caps; rw [hn0]
  obtain ⟨w4, hw4⟩ : ∃ w4, w4 = ((W.alloc (.cells #[.func (.yield X.l) #[] #[]] 54)).alloc (.cells #[.slice none 0 0] 23)).alloc (.cells #[.func (.func 50) #[] X.caps] 29) := ⟨_, rfl⟩
  have hb4 : Below W.heap.size W w4 := by rw [hw4]; exact (((Below.refl _ _).alloc (Nat.le_refl _) _).alloc (by simp) _).alloc (by simp; omega) _
  have hz4 : w4.heap.size = W.heap.size + 3 := by rw [hw4]; simp
  have c0 : Blk w4 X.n0 54 #[.func (.yield X.l) #[] #[]] := by rw [hw4]; exact ((Blk.new _ _ _ hn0).alloc _).alloc _
  have c1 : Blk w4 (X.n0 + 1) 23 #[.slice none 0 0] := by rw [hw4]; exact (Blk.new _ _ _ (by simp; omega)).alloc _
  have c2 : Blk w4 (X.n0 + 2) 29 #[.func (.func 50) #[] X.caps] := by rw [hw4]; exact Blk.new _ _ _ (by simp; omega)
  have hf : X.fix w4 := ⟨by omega, c0, c2, (hb4.cell (lt_of_cell hnb)).trans hnb, hnm.below hb4⟩
  have hp : X.pre [] (X.n0 + 1) w4 := ⟨none, 0, c1, World.ownsRow_nil _ _ _ _, (fun _ h => by cases h), by omega, .inl rfl, Nat.le_refl _, by omega⟩
  have hj : J [] (X.n0 + 1) w4 := hJ [] X.n0 W w4 h0 (Kept.of_below hb4 _) _ (.inr (by omega))
  have hg := vgrow_any X hx J Jx _ hJ hY X.n (nn - 1) [] [] (X.n0 + 1) w4 (by simp) List.nodup_nil (by simp) hf hp hj (by simp [Mid.allO])
  rw [hw4, hcaps] at hg
  have HG := Lib.hid hg
  clear hcaps hw4 hb4 hz4 c0 c1 c2 hf hp hj hg hJ hY h0 hnb hnm hn0
  refine callsIn_of_wp Try.func49 rfl trivial ?_ rfl
  simp only [Try.ntmps49, List.size_toArray, List.length_cons, List.length_nil, Nat.reduceAdd, Nat.reduceSub, Array.replicate_succ, Array.replicate_zero, List.push_toArray, List.append_toArray, List.nil_append, List.cons_append]
  gi_wp2
  refine ⟨trivial, ?_⟩
  refine ⟨fun h => (by cases h), ?_⟩
  refine HG.out.mono ?_
  rintro e w5 (⟨rfl, o5, hj5, _, _⟩ | ⟨rfl, q, hq, hx5⟩)
  · have HR := Lib.hid hj5
    clear hj5
    gi_wp2
    go_end0
    exact ⟨⟨_, rfl⟩, .inl ⟨o5, HR.out⟩⟩
  · have HR := Lib.hid (And.intro hq hx5)
    clear hq hx5
    gi_wp2
    go_end0
    exact ⟨⟨_, rfl⟩, .inr ⟨q, HR.out.1, HR.out.2⟩⟩
end Go.Proofs.Ytpoibiakfjkebaa
