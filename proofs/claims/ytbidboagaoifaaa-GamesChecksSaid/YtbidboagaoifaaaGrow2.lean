/- Contract: the inner function of orders, by induction on how many players are still to come. -/
import Derived.Test.YtbidboagaoifaaaGrow
namespace Go.Proofs.Ytbidboagaoifaaa
open Go.RowKit

theorem players_q (A : Option Addr) (n k cap m : Nat) (w : World) (h : n = 2 ∧ k = 1 ∨ n = 4 ∧ k = 2 ∨ n = 8 ∧ k = 3 ∨ n = 16 ∧ k = 4) :
    Calls Try.prog 57 #[.slice A n cap] (w.drewN m) fun e w'' => e = .returned (.int .i64 k) ∧ ∃ j, w'' = w.drewN j :=
  (players_any A n k cap _ h).mono fun _ _ hh => ⟨hh.1, m, hh.2.symm⟩

theorem GX.ok.np {X : GX} (hx : X.ok) : X.N = 2 ∧ X.n = 1 ∨ X.N = 4 ∧ X.n = 2 ∨ X.N = 8 ∧ X.n = 3 ∨ X.N = 16 ∧ X.n = 4 := by
  have h := hx.hN
  have h1 := hx.hn
  have h0 := hx.hn0
  generalize X.n = n at *
  generalize X.N = N at *
  subst h
  match n, h0, h1 with
  | 1, _, _ => simp
  | 2, _, _ => simp
  | 3, _, _ => simp
  | 4, _, _ => simp

theorem own_cells {w : World} {base e n g c : Nat} {xs : List Value} (h : w.ownsRow base e 1 (.slice (some ⟨g, 0, none⟩) n c) n xs) : ∀ j u, xs[j]? = some u → w.cell? ((⟨g, 0, none⟩ : Addr).add j) = some u := h.cells rfl

theorem own_some {w : World} {base e n c : Nat} {A : Option Addr} {xs : List Value} (h : w.ownsRow base e 1 (.slice A n c) n xs) (hn : 0 < n) : ∃ g, A = some ⟨g, 0, none⟩ ∧ base ≤ g ∧ g < w.heap.size := by
  rcases h.2 with ⟨_, h⟩ | ⟨g, cap, cur, hv, h1, h2, _⟩
  · omega
  · injection hv with e1
    exact ⟨g, e1, h1, lt_of_block h2⟩

theorem nats_get {xs : List Nat} {i x : Nat} (h : xs[i]? = some x) : (nats xs)[i]? = some (Value.int .i64 (x : Int)) := by simp [nats, h]

set_option maxHeartbeats 800000 in
theorem grow_full (X : GX) (hx : X.ok) (pre : List Nat) (cnt : Int) (sums : List Int) (w : World) (hpl : pre.length = X.n) (hpn : ∀ x ∈ pre, x < X.n) (hf : X.fix w) (ha : X.acc cnt sums w) (hp : X.pre pre w) (hcnt : cnt ≤ 1000) :
    Calls Try.prog 85 #[.pointer (some ⟨X.Bo, 0, none⟩), .pointer (some ⟨X.Bcb, 0, none⟩), .pointer (some ⟨X.Bfb, 0, none⟩), .pointer (some ⟨X.Bg, 0, none⟩)] w fun e w' =>
      e = .returned (.tuple #[]) ∧ X.post pre cnt sums [pre] w w' := by
  obtain ⟨A, k, hbo, hown, hk1, hk2⟩ := hp
  rw [hpl] at hbo hown hk1
  obtain ⟨g, rfl, hg, hgw⟩ := own_some hown (by have := hx.hn0; omega)
  obtain ⟨o1, o2⟩ := hbo.at1
  obtain ⟨q1, q2⟩ := hf.bcb.at1
  obtain ⟨r1, r2⟩ := hf.bfb.at1
  have hn4 := hx.hn
  have hn0 := hx.hn0
  have HNP := Lib.hid hx.np
  have HH := Lib.hid (And.intro hx (And.intro hf (And.intro ha (And.intro hown hpn))))
  have HPL := Lib.hid hpl
  have HBO := Lib.hid hbo
  clear hx hf ha hown hpn hpl hbo
  go_enter Try.func85, Try.ntmps85
  go_wp2_with fail
  go_quiet ((go_at_call 57; exact players_q _ _ _ _ _ _ HNP.out))
  go_wp2_with fail
  obtain ⟨hx, hf, ha, hown, hpn⟩ := HH.out
  refine (shapley1_any ⟨g, 0, none⟩ X.ac X.N X.cap X.n k X.Bc X.Bk X.Bs X.S X.c pre cnt sums (w.drewN nq) hx.hn hx.hN hx.hl HPL.out ha.sl (fun i x hi => hf.hc i x hi) (fun i x hi => own_cells hown i _ (nats_get hi)) hpn hx.hcb ⟨ha.c0, hcnt⟩ ha.sb (ha.bc.drewN _) (hf.bk.drewN _) (hf.bs.drewN _) (ha.bS.drewN _) hx.a1 ?n2 ?n3 ?n4 hx.n3 ?n6).mono ?_
  case n2 => have := hx.lt X.Bc (by simp); show g ≠ X.Bc; omega
  case n3 => have := hx.nd X.Bk (by simp); simp at this; exact this.2.1
  case n4 => have := hx.nd X.Bs (by simp); simp at this; exact this.2.1
  case n6 => have := hx.nd X.Bs (by simp); simp at this; exact this.2.2
  rintro e w' ⟨rfl, h1, h2, h3⟩
  have HF := Lib.hid (And.intro h1 (And.intro h2 h3))
  clear h1 h2 h3 hx hf ha hown hpn
  go_wp2
  obtain ⟨hx, hf, ha, hown, hpn⟩ := HH.out
  obtain ⟨h1, h2, h3⟩ := HF.out
  refine bodyPost_ret (results_none rfl _ _ _) rfl ⟨rfl, ?_⟩
  have hk : Kept w.heap.size [X.Bc, X.S] w w' := ((Kept.refl _ _ w).drewN _).trans h3
  have hbo := hx.lt X.Bo (by simp)
  have hbc := hx.lt X.Bc (by simp)
  have hbS := hx.lt X.S (by simp)
  have hsz := hf.size
  exact {
    acc := {
      bc := by simpa using h1
      bS := h2
      c0 := by have := ha.c0; simp; omega
      sl := (addUp_length _ _ _).trans ha.sl
      sb := fun y hy => by
        have := addUp_bd ha.sb (joinL_bd hx.hcb pre) (by have := ha.c0; omega) X.n y hy
        simp only [List.length_singleton]; omega }
    pre := ⟨some ⟨g, 0, none⟩, k, by rw [HPL.out]; exact HBO.out.kept hk HBO.out.lt (by simp [hx.n1, hx.n2]), by
      rw [HPL.out]
      exact own_kept hown fun b h1 h2 => hk.block b h2 (by simp only [List.mem_cons, List.not_mem_nil, or_false]; omega), by rw [HPL.out]; exact hk1, hk2⟩
    kept := hk.mono hsz (by simp) }
end Go.Proofs.Ytbidboagaoifaaa
