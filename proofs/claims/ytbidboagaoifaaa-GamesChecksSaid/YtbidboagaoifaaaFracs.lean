/- Contracts: the copy of the beginning of a slice of fractions, and Payments of package corrodyref07. -/
import Derived.Test.YtbidboagaoifaaaPairLaw
import Derived.Test.YtbidboagaoifaaaFrac2
namespace Go.Proofs.Ytbidboagaoifaaa
open Go.RowKit

set_option maxHeartbeats 400000 in
theorem cloneF_any (A : Option Addr) (n cap : Nat) (ps : List (Int × Int)) (w : World) (hl : ps.length = n) (hm : n ≤ 1000000000) (h : Prs w A ps) :
    Calls Try.prog 69 #[.slice A n cap] w fun e w' => ∃ A' c, e = .returned (.slice A' n c) ∧ w'.ownsRow w.heap.size 31 2 (.slice A' n c) n (pcells ps) ∧ Below w.heap.size w w' := by
  have qT : ∀ (w : World) (a : Option Addr) (n c n' c' : Nat), (binOp .eql 23 (.slice a n c) (.slice none n' c')).run Try.prog w = .ok (.bool a.isNone) w := fun w a n c n' c' => Lib.run_eql_slice_nil w _ _ a n c n' c' Try.underlying23
  obtain ⟨i0, hi, hz0, hz1, hz2⟩ := info_parts info_frac
  rcases A with _ | ad
  · have h0 : ps = [] := by
      cases ps with
      | nil => rfl
      | cons p l => obtain ⟨ad, e, _⟩ := h 0 (.int .i64 p.1) rfl; cases e
    subst h0
    obtain rfl : n = 0 := by simpa using hl.symm
    clear h hl
    go_enter Try.func69, Try.ntmps69
    go_wp2
    go_ret
    exact ⟨none, 0, rfl, World.ownsRow_nil _ _ _ _, Below.refl _ _⟩
  · have HL := Lib.hid (And.intro hl (pcells_length ps))
    have HC := Lib.hid (At.some2 h)
    clear hl h
    go_enter Try.func69, Try.ntmps69
    go_wp2_with (at_builtin; refine wpList_append_own _ rfl _ _ 23 rfl w.heap.size 31 i0 (.agg #[.int .i64 0, .int .i64 0]) 2 16 Try.underlying23 hi hz0 hz1 hz2 rfl (by decide) _ 0 [] rfl (World.ownsRow_made w #[] 0 (Nat.le_refl _) (by decide) rfl) ad n cap (pcells ps) rfl ?c1 ?c2 ?c3 ?c4 ?c5 ?c6 ?_)
    case c1 => have := HL.out; omega
    case c2 => exact At.new HC.out
    case c3 => exact pcells_one ps
    case c4 => unfold maxLen; omega
    case c5 => omega
    case c6 => go_size
    intro v' w1 hown hgrow _
    obtain ⟨A', c, rfl, _⟩ := own_form hown
    go_wp2
    go_ret
    refine ⟨A', c, by simp, by simpa using hown, ?_⟩
    exact (((Below.refl _ _).alloc (Nat.le_refl _) _)).grown hgrow (by go_size) (by intro k hk; simp [Value.ownBlock] at hk; omega)

set_option maxHeartbeats 400000 in
theorem lfracs_any (A : Option Addr) (n cap : Nat) (ps : List (Int × Int)) (w : World) (hl : ps.length = n) (hc : n ≤ cap) (hm : cap ≤ 9223372036854775807) (h : Prs w A ps) :
    Calls Try.prog 38 #[.slice A n cap] w fun e w' => ∃ A' c, e = .returned (.slice A' (min n 6) c) ∧ w'.ownsRow w.heap.size 31 2 (.slice A' (min n 6) c) (min n 6) (pcells (ps.take 6)) ∧ Below w.heap.size w w' := by
  have hk := h.take 6
  have hl' : (ps.take 6).length = min n 6 := by rw [List.length_take, hl]; omega
  have HK := Lib.hid hk
  have HL := Lib.hid hl'
  clear hk h hl hl'
  by_cases h0 : n ≤ 6
  · have e0 : min n 6 = n := by omega
    rw [e0]
    have HE := Lib.hid e0
    clear e0
    go_enter Try.func38, Try.ntmps38
    go_wp2_with fail
    refine (cloneF_any A n cap (ps.take 6) _ (by rw [HL.out, HE.out]) (by omega) HK.out).mono ?_
    rintro e w' ⟨A', c, rfl, hown, hb⟩
    have HO := Lib.hid hown
    have HB := Lib.hid hb
    clear hown hb
    go_wp2
    go_ret
    exact ⟨A', c, rfl, HO.out, HB.out⟩
  · have e0 : min n 6 = 6 := by omega
    rw [e0]
    have HE := Lib.hid e0
    clear e0
    go_enter Try.func38, Try.ntmps38
    go_wp2_with fail
    refine (cloneF_any A 6 cap (ps.take 6) _ (by rw [HL.out, HE.out]) (by omega) HK.out).mono ?_
    rintro e w' ⟨A', c, rfl, hown, hb⟩
    have HO := Lib.hid hown
    have HB := Lib.hid hb
    clear hown hb
    go_wp2
    go_ret
    exact ⟨A', c, rfl, HO.out, HB.out⟩

theorem payB_elem {n k : Nat} {ps : List (Int × Int)} {p : Int × Int} (h : ps[k]? = some p) (hb : scB 24 p.1 p.2 = false) : payB n ps = false := by
  unfold payB
  have : ps.all (fun p => scB 24 p.1 p.2) = false := by
    rw [List.all_eq_false]
    exact ⟨p, List.mem_of_getElem? h, by simp [hb]⟩
  rw [this, Bool.false_and]
theorem takeP_succ {ps : List (Int × Int)} {k : Nat} {x : Int × Int} (h : ps[k]? = some x) : ps.take (k + 1) = ps.take k ++ [x] := by
  rw [List.take_add_one, h]; rfl
theorem allP_succ {ps : List (Int × Int)} {k : Nat} {p : Int × Int} (h : ps[k]? = some p) (ha : (ps.take k).all (fun p => scB 24 p.1 p.2) = true) (hp : scB 24 p.1 p.2 = true) : (ps.take (k + 1)).all (fun p => scB 24 p.1 p.2) = true := by
  rw [takeP_succ h, List.all_append, ha]; simp [hp]
theorem payB_all {n m : Nat} {ps : List (Int × Int)} (hl : ps.length = m) (ha : (ps.take m).all (fun p => scB 24 p.1 p.2) = true) : payB n ps = decide (m = n) := by
  unfold payB
  rw [List.take_of_length_le (by omega)] at ha
  rw [ha, hl, Bool.true_and]
theorem low_of_sc {a b : Int} (h : scB 24 a b = true) : lowB a b = true := by
  obtain ⟨h1, _, _, h4, h5⟩ := scB_iff.1 h
  simp only [lowB, h5, Bool.and_eq_true, decide_eq_true_eq]
  exact ⟨⟨by omega, by omega⟩, rfl⟩
theorem sc_of_low {a b : Int} (h : lowB a b = true) (h1 : b ≤ 24) (h2 : -100000 ≤ a) (h3 : a ≤ 100000) : scB 24 a b = true := by
  simp only [lowB, Bool.and_eq_true, decide_eq_true_eq, beq_iff_eq] at h
  exact scB_iff.2 ⟨h.1.1, h1, h3, h2, by omega⟩

set_option maxRecDepth 100000 in
set_option maxHeartbeats 1600000 in
theorem rpayments_any (A : Option Addr) (m cap n : Nat) (ps : List (Int × Int)) (w : World) (hl : ps.length = m) (hm : m ≤ 9223372036854775807) (_ : n ≤ 4) (h : Prs w A ps)
    (hr : ∀ p ∈ ps, (-9223372036854775808 ≤ p.1 ∧ p.1 ≤ 9223372036854775807) ∧ -9223372036854775808 ≤ p.2 ∧ p.2 ≤ 9223372036854775807) :
    Calls Try.prog 39 #[.int .i64 n, .slice A m cap] w fun e w' => e = .returned (.bool (payB n ps)) ∧ Below w.heap.size w w' := by
  have hI := fun (hp : 0 < ps.length) => h.some_ hp
  have H := Lib.hid (And.intro hl (And.intro hI hr))
  clear hl h hI hr
  go_enter Try.func39, Try.ntmps39
  go_wp2_with fail
  go_loopw [9] (fun iv wr => ∃ k : Nat, k ≤ m ∧ iv = .int .i64 k ∧ (ps.take k).all (fun p => scB 24 p.1 p.2) = true ∧ Below w.heap.size w wr) (fun iv _ => m - (intOf iv).toNat)
  case atStart => exact ⟨0, Nat.zero_le _, rfl, by simp, Below.refl _ _⟩
  case round =>
    obtain ⟨k, hk, rfl, ha, hbl⟩ := hrel
    have HA := Lib.hid (And.intro ha hbl)
    have hws := hbl.size
    clear ha
    by_cases hlt : k < m
    · obtain ⟨hl, hI, hr⟩ := H.out
      obtain ⟨ad, rfl, _, hc⟩ := hI (by omega)
      obtain ⟨p, hp⟩ : ∃ p, ps[k]? = some p := ⟨_, List.getElem?_eq_getElem (by omega)⟩
      obtain ⟨g1, g2⟩ := hc k p hp
      have c1 := (hbl.cell (lt_of_cell g1)).trans g1
      have c2 := (hbl.cell (lt_of_cell g2)).trans g2
      obtain ⟨hr1, hr2⟩ := hr p (List.mem_of_getElem? hp)
      obtain ⟨a, b⟩ := p
      have HP := Lib.hid hp
      simp only at c1 c2 hr1 hr2
      clear hl hI hc hp hr g1 g2 hbl
      have fin : ∀ (x : World), scB 24 a b = false → Below w.heap.size w x → Hid (payB n ps = false) := fun x hs _ => Lib.hid (payB_elem HP.out hs)
      have HFIN := Lib.hid fin
      clear fin
      go_wp2_with fail
      refine (rlowest_any a b _ (by omega) (by omega) (by omega)).mono ?_
      rintro e w1 ⟨rfl, hb1⟩
      have hB1 : Blk w1 wr.heap.size 31 #[.int .i64 a, .int .i64 b] := (Blk.new _ _ _ rfl).below hb1 (by go_size)
      obtain ⟨s1, s2, _, _⟩ := hB1.at2
      have hbw : Below w.heap.size w w1 := (HA.out.2.alloc hws _).trans (hb1.mono (by simp; omega))
      have HB := Lib.hid hbw
      clear hB1 hb1 hbw
      cases hlow : lowB a b
      · have hs : scB 24 a b = false := by
          rw [← Bool.not_eq_true]
          intro h
          rw [low_of_sc h] at hlow
          cases hlow
        have HF := HFIN.out w1 hs HB.out
        clear hs hlow
        go_wp2_with fail
        go_ret
        exact ⟨ret_bool HF.out.symm, HB.out⟩
      · by_cases h1 : 24 < b
        · have hs : scB 24 a b = false := by
            rw [← Bool.not_eq_true]
            intro h
            have := scB_iff.1 h
            omega
          have HF := HFIN.out w1 hs HB.out
          clear hs hlow
          go_wp2_with fail
          go_ret
          exact ⟨ret_bool HF.out.symm, HB.out⟩
        · by_cases h2 : a < -100000
          · have hs : scB 24 a b = false := by
              rw [← Bool.not_eq_true]
              intro h
              have := scB_iff.1 h
              omega
            have HF := HFIN.out w1 hs HB.out
            clear hs hlow
            go_wp2_with fail
            go_ret
            exact ⟨ret_bool HF.out.symm, HB.out⟩
          · by_cases h3 : 100000 < a
            · have hs : scB 24 a b = false := by
                rw [← Bool.not_eq_true]
                intro h
                have := scB_iff.1 h
                omega
              have HF := HFIN.out w1 hs HB.out
              clear hs hlow
              go_wp2_with fail
              go_ret
              exact ⟨ret_bool HF.out.symm, HB.out⟩
            · have HS := Lib.hid (allP_succ HP.out HA.out.1 (sc_of_low hlow (by omega) (by omega) (by omega)))
              clear hlow
              go_wp2_with fail
              go_roundw
              case rel => exact ⟨k + 1, by omega, by go_num, HS.out, HB.out⟩
              case measure => simp [intOf]; omega
    · obtain rfl : m = k := by omega
      have HR : Hid (payB n ps = decide (m = n)) := Lib.hid (payB_all H.out.1 HA.out.1)
      by_cases hkn : m = n
      · have hd : ((m : Int) == (n : Int)) = true := by simp [hkn]
        have HK := Lib.hid hkn
        clear hkn hbl
        go_wp2_with fail
        go_ret
        exact ⟨ret_bool (by rw [HR.out]; simp [HK.out]), HA.out.2⟩
      · have hd : ((m : Int) == (n : Int)) = false := by simp; omega
        clear hbl
        go_wp2_with fail
        go_ret
        exact ⟨ret_bool (by rw [HR.out]; simp [hkn]), HA.out.2⟩
end Go.Proofs.Ytbidboagaoifaaa
