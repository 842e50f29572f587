/- Contract: each of package split, for whatever function it is called with. -/
import Derived.Test.YtkljambjdiblkaaSDivLaw
import Derived.Test.YtkljambjdiblkaaSMat
import Derived.Deep.LoopGhost
namespace Go.Proofs.Ytkljambjdiblkaa
open Go.RowKit

theorem info_intD : (Try.prog.info? 3).map (fun i => (i.zero, i.size, i.bytes)) = some (some (.int .i64 0), 1, 8) := by kernel_rfl
/-- make(division, n). -/
theorem make_div (n : Nat) (hn : n ≤ 1000000) (w : World) : (Instr.makeSlice 64 (.int .i64 n) (.int .i64 n)).run Try.prog w = .ok (.slice (some ⟨w.heap.size, 0, none⟩) n n) (w.alloc (.cells (arr (List.replicate n 0)) 3)) := by
  obtain ⟨i0, hi, hz0, hz1, hz2⟩ := info_parts info_intD
  have hr := run_make (P := Try.prog) w 64 3 i0 (.int .i64 0) Try.underlying64 hi hz0 .i64 .i64 n n (by omega) (by omega) (by rw [hz2]; omega) (by omega)
  simp only [Int.toNat_natCast, hz1] at hr
  rw [hr, arr_zeros]

/-- What a call of the function leaves. -/
def EachPost (Inv : Nat → World → Prop) (Done : World → Prop) (n m t D : Nat) (e : Ending) (w' : World) : Prop :=
  (e = .returned (.bool true) ∧ Inv (t + 1) w' ∧ Blk w' D 3 (arr (dz n m t))) ∨ (e = .returned (.bool false) ∧ Done w')
/-- What each leaves. -/
def EachEnd (Inv : Nat → World → Prop) (Done : World → Prop) (k : Nat) (e : Ending) (w' : World) : Prop := e = .returned (.tuple #[]) ∧ (Inv k w' ∨ Done w')

/-- K is a function with a body. -/
def Ent (K : FuncId) : Prop := ∀ (args : Array Value) (w : World), (callFunc K args).run Try.prog w = .ok (.enter K args) w
theorem ent_of {K : FuncId} {fn : Func} (hf : Try.prog.funcs[K]? = some fn) (hn : (fn.name == "runtime.NumGoroutine") = false) (hb : fn.body.isNone = false) : Ent K := by
  intro args w
  have hn' : fn.name ≠ "runtime.NumGoroutine" := by simpa using hn
  have hb' : fn.body ≠ none := by intro h; rw [h] at hb; cases hb
  simp [callFunc, Sem.run_bind, hf, go_sem]
  rw [if_neg hn', if_neg hb']

set_option maxRecDepth 100000 in
set_option maxHeartbeats 1600000 in
theorem each_any (K : FuncId) (caps : Array Value) (A : Option Addr) (n cap m : Nat) (V : List (List Int)) (w : World) (Inv : Nat → World → Prop) (Done : World → Prop) (hK : Ent K)
    (hl : V.length = n) (hn : 1 ≤ n ∧ n ≤ 4) (hm : m = (rowV V 0).length) (hm7 : 1 ≤ m ∧ m ≤ 7) (hV : Mat w A V)
    (hst : Inv 0 (w.alloc (.cells (arr (List.replicate m 0)) 3)))
    (hset : ∀ t w' i v, Inv t w' → Inv t (w'.setCell ⟨w.heap.size, i, none⟩ v))
    (hcall : ∀ t w', t < n ^ m → Inv t w' → Blk w' w.heap.size 3 (arr (dz n m t)) → Calls Try.prog K (#[.slice (some ⟨w.heap.size, 0, none⟩) m m] ++ caps) w' (EachPost Inv Done n m t w.heap.size)) :
    Calls Try.prog 51 #[.slice A n cap, .func (.func K) #[] caps] w (EachEnd Inv Done (n ^ m)) := by
  have hmk := make_div m (by omega)
  unfold Ent at hK
  have H := Lib.hid (And.intro hl (And.intro hm (And.intro hV (And.intro hst (And.intro hset hcall)))))
  clear hl hm hV hst hset hcall
  go_enter Try.func51, Try.ntmps51
  go_wp2_with fail
  refine (goods_any A n cap m V _ H.out.1 hn.1 (by omega) H.out.2.1 (by omega) H.out.2.2.1).mono ?_
  rintro e w' ⟨rfl, rfl⟩
  go_wp2_with fail
  go_loopg [] (n ^ m) (fun g wr => ∃ t : Nat, t < n ^ m ∧ g = n ^ m - t ∧ Inv t wr ∧ Blk wr w.heap.size 3 (arr (dz n m t)))
  case atStart => exact ⟨0, Nat.pow_pos (by omega), by simp, H.out.2.2.2.1, by rw [dz_zero]; exact Blk.new _ _ _ rfl⟩
  case round =>
    obtain ⟨t, ht, hgk, hInv, hB⟩ := hrel
    have HG := Lib.hid (And.intro ht hgk)
    have hc := H.out.2.2.2.2.2 t wr ht hInv hB
    have HC := Lib.hid hc
    clear ht hgk hInv hB hc
    go_wp2_with fail
    refine HC.out.mono ?_
    rintro e w2 (⟨rfl, hI2, hB2⟩ | ⟨rfl, hD2⟩)
    · obtain ⟨ht, hgk⟩ := HG.out
      have H2 := Lib.hid (And.intro hI2 hB2)
      have em : IntKind.i64.wrap ((m : Int) - 1) = (m : Int) - 1 := IntWalk.i64_in _ (by omega)
      clear hI2 hB2 ht hgk
      go_wp2_with fail
      go_loopg [5] (m + 1) (fun g gv wr => ∃ k j q : Nat, g = k + 1 ∧ k + j = m ∧ gv = .int .i64 ((k : Int) - 1) ∧ t + 1 = (q + 1) * n ^ j ∧ Inv (t + 1) wr ∧ Blk wr w.heap.size 3 (arr (dzs n k j q)))
      case atStart => exact ⟨m, 0, t, rfl, rfl, rfl, by simp, H2.out.1, by rw [dzs_start]; exact H2.out.2⟩
      case round =>
        obtain ⟨k, j, q, rfl, hkj, rfl, htq, hI, hB⟩ := hrel
        have HR := Lib.hid (And.intro htq (And.intro hI hB))
        clear htq hI hB
        by_cases hk0 : k = 0
        · subst hk0
          have hfin : t + 1 = n ^ m := by
            obtain ⟨htq, _, _⟩ := HR.out
            obtain ⟨ht, _⟩ := HG.out
            obtain rfl : j = m := by omega
            have h1 : (q + 1) * n ^ j ≤ 1 * n ^ j := by rw [Nat.one_mul]; omega
            have hpos : 0 < n ^ j := Nat.pow_pos (by omega)
            have h2 := Nat.le_of_mul_le_mul_right h1 hpos
            have : q = 0 := by omega
            subst this
            omega
          have HF := Lib.hid hfin
          clear hfin
          go_wp2_with fail
          go_end0
          exact ⟨rfl, .inl (by rw [← HF.out]; exact HR.out.2.1)⟩
        · obtain ⟨k', rfl⟩ : ∃ k', k = k' + 1 := ⟨k - 1, by omega⟩
          have eg : ((k' + 1 : Nat) : Int) - 1 = (k' : Int) := by omega
          rw [eg]
          clear eg
          obtain ⟨r, hr⟩ : ∃ r, r = q % n := ⟨_, rfl⟩
          have hrn : r < n := by rw [hr]; exact Nat.mod_lt _ (by omega)
          have c1 : wr.cell? ⟨w.heap.size, k', none⟩ = some (.int .i64 (r : Int)) := by rw [HR.out.2.2.cell, arr_get, dzs_get, hr]; rfl
          have f1 : wr.frozen? ⟨w.heap.size, k', none⟩ = false := HR.out.2.2.frozen k'
          have l1 : (k' : Int) < (m : Int) := by omega
          have l2 : (0 : Int) ≤ (k' : Int) := by omega
          have HQ := Lib.hid hr
          clear hr
          by_cases hlast : r = n - 1
          · have hb : ((r : Int) == (n : Int) - 1) = true := by rw [beq_iff_eq]; omega
            have HL := Lib.hid hlast
            clear hlast
            go_wp2_with fail
            go_roundg (k' + 1)
            case measure => omega
            case rel =>
              refine ⟨k', j + 1, q / n, rfl, by omega, rfl, last_on (by omega) HR.out.1 (by rw [← HQ.out]; exact HL.out), H.out.2.2.2.2.1 _ _ _ _ HR.out.2.1, ?_⟩
              rw [← dzs_on, ← arr_set]
              exact HR.out.2.2.set_ k' _
          · have hb : ((r : Int) == (n : Int) - 1) = false := by rw [beq_eq_false_iff_ne]; omega
            have hlt : q % n < n - 1 := by rw [← HQ.out]; omega
            have hup := dzs_up (k := k') (j := j) hlt
            have hnl := not_last (k := k') (j := j) (t := t) (by rw [show k' + 1 + j = m from by omega]; exact HG.out.1) HR.out.1 hlt
            rw [← HQ.out, ← HR.out.1, show k' + 1 + j = m from by omega] at hup
            rw [show k' + 1 + j = m from by omega] at hnl
            have HU := Lib.hid (And.intro hup hnl)
            clear hlt hup hnl hlast
            go_wp2_with fail
            go_roundg (n ^ m - (t + 1))
            case measure => have := HG.out; have := HU.out.2; omega
            case rel =>
              refine ⟨t + 1, HU.out.2, rfl, H.out.2.2.2.2.1 _ _ _ _ HR.out.2.1, ?_⟩
              rw [← HU.out.1, ← arr_set]
              exact HR.out.2.2.set_ k' _
    · have HD := Lib.hid hD2
      clear hD2
      go_wp2_with fail
      go_end0
      exact ⟨rfl, .inr HD.out⟩
end Go.Proofs.Ytkljambjdiblkaa
