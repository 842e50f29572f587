/- Contract: orders of package corrodyref07: the list of all orders that begin in some way. -/
import Derived.Test.YtbidboagaoifaaaApp3
import Derived.Test.YtbidboagaoifaaaROrdLaw
import Derived.Test.YtbidboagaoifaaaGrow3
namespace Go.Proofs.Ytbidboagaoifaaa
open Go.RowKit

def zs (L : List (List Nat)) : List (List Int) := L.map fun os => os.map Int.ofNat
theorem zs_length (L : List (List Nat)) : (zs L).length = L.length := by simp [zs]
theorem zs_append (L M : List (List Nat)) : zs (L ++ M) = zs L ++ zs M := by simp [zs]

/-- All rows lie from some block on. -/
def RowsLo (lo : Nat) (vs : List Value) : Prop := ∀ v ∈ vs, ∀ ad n c, v = .slice (some ad) n c → lo ≤ ad.block
/-- What orders leaves. -/
def OrdPost (lo b : Nat) (L : List (List Nat)) (w : World) (e : Ending) (w' : World) : Prop :=
  ∃ A' k' vs, e = .returned (.slice A' L.length k') ∧ w'.ownsRow w.heap.size 22 1 (.slice A' L.length k') L.length vs ∧ Rows w' b vs (zs L) ∧ RowsLo lo vs ∧ Below w.heap.size w w'

theorem has_take_succ {xs : List Int} {k : Nat} {x y : Int} (h : xs[k]? = some x) : has (xs.take (k + 1)) y = (has (xs.take k) y || x == y) := by
  rw [take_succ' h]
  unfold has
  rw [Bool.eq_iff_iff]
  simp only [List.mem_append, List.mem_singleton, decide_eq_true_eq, Bool.or_eq_true, beq_iff_eq]
  constructor
  · rintro (h | h); exact .inl h; exact .inr h.symm
  · rintro (h | h); exact .inl h; exact .inr h.symm

theorem row1_of_ints {w : World} {A : Option Addr} {cap b : Nat} {os : List Int} (hI : Ints w A os) (hc : os.length ≤ cap) (hm : cap ≤ 9223372036854775807) (hb : ∀ ad, A = some ad → ad.block < b) : Row1 w b (.slice A os.length cap) os :=
  ⟨A, cap, rfl, hc, hm, hI, fun ad h => .inl (hb ad h)⟩

set_option maxRecDepth 100000 in
set_option maxHeartbeats 1600000 in
theorem rorders_any (n : Nat) (hn : n ≤ 4) (m : Nat) : ∀ (pre : List Nat) (l : Nat) (A : Option Addr) (cap : Nat) (w : World) (b lo : Nat), pre.length = l → l + m = n → l ≤ cap → cap ≤ 9223372036854775807 → (A = none → l = 0 ∧ cap = 0) → b ≤ w.heap.size → lo ≤ w.heap.size → (∀ ad, A = some ad → lo ≤ ad.block) → Row1 w b (.slice A l cap) (pre.map Int.ofNat) → (∀ x ∈ pre, x < n) →
    Calls Try.prog 65 #[.int .i64 n, .slice A l cap] w (OrdPost lo b (ext n m pre) w) := by
  induction m with
  | zero =>
    intro pre l A cap w b lo hpl hlm hlc hcm h0 hb hlo hAlo hrow hpn
    obtain rfl : l = n := by omega
    have H := Lib.hid (And.intro hrow (And.intro hpl hAlo))
    clear hrow hpl h0 hAlo
    go_enter Try.func65, Try.ntmps65
    go_wp2_with fail
    go_ret
    have hown : (w.alloc (.cells #[.slice A l cap] 22)).ownsRow w.heap.size 22 1 (.slice (some ⟨w.heap.size, 0, none⟩) 1 1) 1 [.slice A l cap] :=
      ⟨rfl, .inr ⟨w.heap.size, 1, _, rfl, Nat.le_refl _, heap_alloc_new w _, by omega, by unfold maxLen; omega, rfl, rfl⟩⟩
    exact ⟨_, 1, [.slice A l cap], rfl, hown, Rows.one_ (H.out.1.below ((Below.refl _ _).alloc (Nat.le_refl _) _)), (fun v hv ad n c he => by simp only [List.mem_singleton] at hv; subst hv; injection he with he; exact H.out.2.2 ad he), (Below.refl _ _).alloc (Nat.le_refl _) _⟩
  | succ m ih =>
    intro pre l A cap w b lo hpl hlm hlc hcm h0 hb hlo hAlo hrow hpn
    have hI : Ints w A (pre.map Int.ofNat) := by
      obtain ⟨A', c', he, _, _, h, _⟩ := hrow
      injection he with he
      subst he
      exact h
    have IH := Lib.hid ih
    have hne : ((l : Int) == (n : Int)) = false := by simp; omega
    have hl4 : l < 4 := by omega
    have H := Lib.hid (And.intro hpl (And.intro h0 (And.intro hrow (And.intro hI (And.intro hpn (And.intro hlm hcm))))))
    clear hpl h0 hrow hI hpn ih hAlo
    go_enter Try.func65, Try.ntmps65
    go_wp2_with fail
    go_loopw [5, 17] (fun ov iv wr => ∃ (i : Nat) (A2 : Option Addr) (k2 : Nat) (vs : List Value), i ≤ n ∧ iv = .int .i64 i ∧ ov = .slice A2 (extTo n m pre i).length k2 ∧ wr.ownsRow w.heap.size 22 1 (.slice A2 (extTo n m pre i).length k2) (extTo n m pre i).length vs ∧ Rows wr b vs (zs (extTo n m pre i)) ∧ RowsLo lo vs ∧ Below w.heap.size w wr) (fun _ iv _ => n - (intOf iv).toNat)
    case atStart => exact ⟨0, none, 0, [], Nat.zero_le _, rfl, rfl, World.ownsRow_nil _ _ _ _, Rows.nil, (fun v hv => by cases hv), Below.refl _ _⟩
    case round =>
      obtain ⟨i, A2, k2, vs, hi, rfl, rfl, hown, hrows, hrl, hbl⟩ := hrel
      have HRL := Lib.hid hrl
      clear hrl
      obtain ⟨wo, rfl⟩ : ∃ wo : World, wo = wr := ⟨_, rfl⟩
      have hext := extTo_lenP n m pre i
      obtain ⟨q, hq⟩ : ∃ q, q = (extTo n m pre i).length := ⟨_, rfl⟩
      rw [← hq] at hown ⊢
      have hm4 : m ≤ 4 := by omega
      have hps := pow_small hn hm4
      have hq2 : q ≤ 4 * 256 := by
        rw [hq]
        exact Nat.le_trans hext (Nat.mul_le_mul (by omega) hps)
      have HR := Lib.hid (And.intro hown (And.intro hrows (And.intro hbl hq)))
      have hwsz := hbl.size
      clear hown hrows hbl hq hext hps
      by_cases hlt : i < n
      · go_wp2_with fail
        go_loop [7, 22] (fun mv jv => ∃ j : Nat, j ≤ l ∧ jv = .int .i64 j ∧ mv = .bool (has ((pre.map Int.ofNat).take j) (i : Int))) (fun _ jv => l - (intOf jv).toNat)
        case atStart => exact ⟨0, Nat.zero_le _, rfl, rfl⟩
        case round =>
          obtain ⟨j, hj, rfl, rfl⟩ := hrel
          by_cases hlj : j < l
          · obtain ⟨hpl, h0, hrow, hI, hpn, _, _⟩ := H.out
            obtain ⟨ad, rfl, _, hc⟩ := hI.some_ (by simp; omega)
            obtain ⟨x, hx⟩ : ∃ x, (pre.map Int.ofNat)[j]? = some x := ⟨_, List.getElem?_eq_getElem (by simp; omega)⟩
            have hcell := (HR.out.2.2.1.cell (lt_of_cell (hc j x hx))).trans (hc j x hx)
            have HT := Lib.hid (has_take_succ (y := (i : Int)) hx)
            clear hpl h0 hrow hI hpn hc hx
            cases hm : has ((pre.map Int.ofNat).take j) (i : Int)
            · have HM := Lib.hid hm
              clear hm
              by_cases he : x = (i : Int)
              · have hb : (x == (i : Int)) = true := by simp [he]
                have HE := Lib.hid hb
                clear he
                go_wp2_with fail
                go_round
                case rel => exact ⟨j + 1, by omega, by go_num, by rw [HT.out, HM.out, HE.out]; rfl⟩
                case measure => simp [intOf]; omega
              · have hb : (x == (i : Int)) = false := by simp [he]
                have HE := Lib.hid hb
                clear he
                go_wp2_with fail
                go_round
                case rel => exact ⟨j + 1, by omega, by go_num, by rw [HT.out, HM.out, HE.out]; rfl⟩
                case measure => simp [intOf]; omega
            · have HM := Lib.hid hm
              clear hm
              go_wp2_with fail
              go_round
              case rel => exact ⟨j + 1, by omega, by go_num, by rw [HT.out, HM.out]; rfl⟩
              case measure => simp [intOf]; omega
          · obtain rfl : j = l := by omega
            have HALL : Hid ((pre.map Int.ofNat).take j = pre.map Int.ofNat) := Lib.hid (List.take_of_length_le (by have := H.out.1; simp; omega))
            rw [HALL.out]
            by_cases hmem : i ∈ pre
            · have hm : has (pre.map Int.ofNat) (i : Int) = true := by rw [mem_nats]; simp [hmem]
              have HE : Hid (extTo n m pre (i + 1) = extTo n m pre i) := Lib.hid (by rw [extTo_succ, if_pos hmem, List.append_nil])
              rw [hm]
              clear hm hmem
              go_wp2_with fail
              go_roundw
              case rel => exact ⟨i + 1, A2, k2, vs, by omega, by go_num, by rw [HE.out, HR.out.2.2.2], by rw [HE.out, ← HR.out.2.2.2]; exact HR.out.1, by rw [HE.out]; exact HR.out.2.1, HRL.out, HR.out.2.2.1⟩
              case measure => simp [intOf]; omega
            · have hm : has (pre.map Int.ofNat) (i : Int) = false := by rw [mem_nats]; simp [hmem]
              have HE : Hid (extTo n m pre (i + 1) = extTo n m pre i ++ ext n m (pre ++ [i])) := Lib.hid (by rw [extTo_succ, if_neg hmem])
              rw [hm]
              have hlen2 := ext_lenP n m (pre ++ [i])
              have hps2 := pow_small hn hm4
              have hjc : (j : Int) ≤ (cap : Int) := by omega
              clear hm hmem
              have hA0 : A = none → j = 0 := fun h => (H.out.2.1 h).1
              go_wp2_with (at_builtin; refine freshN sty_int rfl _ _ rfl A j (nats pre) ?d1 ?d2 hA0 ?d3 ⟨wo.heap.size, 0, none⟩ 1 1 [.int .i64 (i : Int)] rfl ?d4 ?d5 rfl (by omega) (by omega) ?_)
              case d1 => have := H.out.1; simp [nats]; omega
              case d2 =>
                have h := (H.out.2.2.2.1.below HR.out.2.2.1).below ((Below.refl _ _).alloc (Nat.le_refl _) (.cells #[.int .i64 (i : Int)] 3))
                unfold Ints at h
                rwa [← nats_ints] at h
              case d3 =>
                intro hj0
                cases A with
                | none => exact absurd (hA0 rfl) hj0
                | some ad => exact ⟨ad, rfl⟩
              intro k3 w3 hown3 hbl3 hk31 hk32
              have hI3 : Ints w3 (some ⟨wo.heap.size + 1, 0, none⟩) ((pre ++ [i]).map Int.ofNat) := by
                unfold Ints
                rw [← nats_ints, nats_snoc]
                exact At.of_own hown3
              have hown3' : w3.ownsRow (wo.heap.size + 1) 3 1 (.slice (some ⟨wo.heap.size + 1, 0, none⟩) (j + 1) k3) (j + 1) (((pre ++ [i]).map Int.ofNat).map (Value.int .i64)) := by
                rw [← nats_ints, nats_snoc]
                exact hown3
              have hrow3 := Row1.of_own hown3' b
              have hblw3 : Below wo.heap.size wo w3 := ((Below.refl _ _).alloc (Nat.le_refl _) _).trans (hbl3.mono (by omega))
              have hw3 := hblw3.size
              have H3 := Lib.hid (And.intro hrow3 hblw3)
              clear hI3 hown3 hown3' hrow3 hbl3 hblw3
              go_wp2_with fail
              refine (IH.out (pre ++ [i]) (j + 1) _ k3 w3 b lo (by have := H.out.1; simp; omega) (by omega) hk31 hk32 (fun h => by cases h) (by omega) (by omega) (fun ad h => by injection h with h; subst h; show lo ≤ wo.heap.size + 1; omega) H3.out.1 (by
                intro x hx
                rcases List.mem_append.1 hx with hx | hx
                · exact H.out.2.2.2.2.1 x hx
                · simp at hx; omega)).mono ?_
              rintro e w4 ⟨A4, k4, vs4, rfl, hown4, hrows4, hrl4, hbl4⟩
              have HRL4 := Lib.hid hrl4
              clear hrl4
              obtain ⟨q4, hq4⟩ : ∃ q4, q4 = (ext n m (pre ++ [i])).length := ⟨_, rfl⟩
              rw [← hq4] at hown4 hlen2 ⊢
              have hbw4 : Below wo.heap.size wo w4 := H3.out.2.trans (hbl4.mono hw3)
              have hown2 := own_below HR.out.1 hbw4
              have hrows2 := HR.out.2.1.below hbw4
              have hnone : A4 = none → q4 = 0 ∧ k4 = 0 := by
                obtain ⟨A', c', he, _, _, h⟩ := own_form hown4
                injection he with e1 _ e3
                subst e1; subst e3
                exact h
              have hat4 : At w4 A4 vs4 := At.of_own hown4
              have hvl : vs4.length = q4 * 1 := hown4.1
              have hw4 := hbw4.size
              have H4 := Lib.hid (And.intro hown2 (And.intro hrows2 (And.intro hrows4 (And.intro hbw4 hq4))))
              have HV := Lib.hid (And.intro hnone (And.intro hat4 hvl))
              clear hown4 hrows4 hbl4 hbw4 hown2 hrows2 hnone hat4 hvl hq4
              go_wp2_with (at_builtin; refine appN sty_intss rfl _ _ rfl w.heap.size A2 q k2 vs rfl H4.out.1 A4 q4 k4 vs4 HV.out.1 HV.out.2.2 HV.out.2.1 H4.out.2.2.1.one rfl (by omega) (by omega) ?_)
              intro A5 k5 w5 hown5 hg5 hbl5 hk51 hk52
              have hrows5 : Rows w5 b (vs ++ vs4) (zs (extTo n m pre (i + 1))) := by
                rw [HE.out, zs_append]
                exact (H4.out.2.1.grown H4.out.1 hb hg5).append (H4.out.2.2.1.grown H4.out.1 hb hg5)
              have hlen5 : (extTo n m pre (i + 1)).length = q + q4 := by rw [HE.out, List.length_append, H4.out.2.2.2.2, HR.out.2.2.2]
              have H5 := Lib.hid (And.intro hown5 (And.intro hrows5 (And.intro ((HR.out.2.2.1.trans (H4.out.2.2.2.1.mono hwsz)).trans hbl5) hlen5)))
              clear hown5 hg5 hbl5 hrows5 hlen5
              go_wp2_with fail
              go_roundw
              case rel => exact ⟨i + 1, A5, k5, vs ++ vs4, by omega, by go_num, by rw [H5.out.2.2.2], by rw [H5.out.2.2.2]; exact H5.out.1, H5.out.2.1, (fun v hv => (List.mem_append.1 hv).elim (HRL.out v) (HRL4.out v)), H5.out.2.2.1⟩
              case measure => simp [intOf]; omega
      · obtain rfl : i = n := by omega
        go_wp2_with fail
        go_ret
        refine ⟨A2, k2, vs, ?_, ?_, ?_, HRL.out, HR.out.2.2.1⟩
        · rw [ext_eq, ← HR.out.2.2.2]; rfl
        · rw [ext_eq, ← HR.out.2.2.2]; exact HR.out.1
        · rw [ext_eq]; exact HR.out.2.1
end Go.Proofs.Ytbidboagaoifaaa
