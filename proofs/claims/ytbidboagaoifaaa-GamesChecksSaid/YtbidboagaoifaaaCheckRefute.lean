/- Contract: CheckRefute of package games. -/
import Derived.Test.YtbidboagaoifaaaTps
import Derived.Test.YtbidboagaoifaaaSeen
import Derived.Test.YtbidboagaoifaaaCheckCore
namespace Go.Proofs.Ytbidboagaoifaaa
open Go.RowKit

def sRow (ts : List Pt) (k n : Nat) : List Int := (List.range n).map fun i => sI ts i k
def sMix (ts : List Pt) (k j n : Nat) : List Int := (List.range n).map fun i => if i < j then sI ts i (k + 1) else sI ts i k
theorem sRow_length (ts : List Pt) (k n : Nat) : (sRow ts k n).length = n := by simp [sRow]
theorem sMix_length (ts : List Pt) (k j n : Nat) : (sMix ts k j n).length = n := by simp [sMix]
theorem sRow_zero (ts : List Pt) (n : Nat) : sRow ts 0 n = List.replicate n 0 := by
  apply List.ext_getElem?
  intro i
  simp only [sRow, List.getElem?_map, List.getElem?_replicate]
  by_cases h : i < n <;> simp [h, sI]
theorem sMix_zero (ts : List Pt) (k n : Nat) : sMix ts k 0 n = sRow ts k n := by simp [sMix, sRow]
theorem sMix_full (ts : List Pt) (k n : Nat) : sMix ts k n n = sRow ts (k + 1) n := by
  unfold sMix sRow
  apply List.map_congr_left
  intro s hs
  rw [List.mem_range] at hs
  rw [if_pos hs]
theorem sMix_get {ts : List Pt} {k j n : Nat} (h : j < n) : (sMix ts k j n)[j]? = some (sI ts j k) := by simp [sMix, h]
theorem sMix_succ {ts : List Pt} {k j n : Nat} (h : j < n) : sMix ts k (j + 1) n = (sMix ts k j n).set j (sI ts j (k + 1)) := by
  apply List.ext_getElem?
  intro i
  rw [List.getElem?_set]
  by_cases hij : j = i
  · subst hij
    rw [if_pos rfl, if_pos (by rw [sMix_length]; exact h)]
    simp [sMix, h]
  · rw [if_neg hij]
    simp only [sMix, List.getElem?_map]
    by_cases hi : i < n
    · simp only [List.getElem?_range hi, Option.map_some]
      congr 1
      by_cases h1 : i < j
      · rw [if_pos h1, if_pos (by omega)]
      · rw [if_neg h1, if_neg (by omega)]
    · simp [hi]
theorem ones_row (ts : List Pt) (n : Nat) : (sRow ts ts.length n).all (fun x => x == 27720) = onesI ts n := by
  unfold sRow onesI
  rw [List.all_map]
  congr 1
theorem sI_bd {N : Nat} {ts : List Pt} (i : Nat) {k : Nat} (h : goodTo N ts k = true) : 0 ≤ sI ts i k ∧ sI ts i k ≤ 2772000000 * (k : Int) := by
  induction k with
  | zero => simp [sI]
  | succ k ih =>
    rw [goodTo_succ, Bool.and_eq_true] at h
    have h1 := ih h.1
    have h2 := ptN_pos h.2
    have e : (2772000000 : Int) * ((k + 1 : Nat) : Int) = 2772000000 * (k : Int) + 2772000000 := by omega
    rw [e]
    simp only [sI]
    split <;> omega
theorem nz_bd {v z : Int} (hv : 1 ≤ v ∧ v ≤ 2772000000) (hz : 0 ≤ z ∧ z ≤ 1000) : 0 ≤ v * z ∧ v * z ≤ 2772000000000 := by
  have h1 := mul_bd (a := v) (b := z) (m := 2772000000) (n := 1000) (by omega) hv.2 hz.1 hz.2
  have h2 : 0 ≤ v * z := Int.mul_nonneg (by omega) hz.1
  omega
theorem tI_bd {c : List Int} (hcb : ∀ x ∈ c, 0 ≤ x ∧ x ≤ 1000) {N : Nat} {ts : List Pt} {k : Nat} (h : goodTo N ts k = true) : 0 ≤ tI c ts k ∧ tI c ts k ≤ 2772000000000 * (k : Int) := by
  induction k with
  | zero => simp [tI]
  | succ k ih =>
    rw [goodTo_succ, Bool.and_eq_true] at h
    have h1 := ih h.1
    have h2 := nz_bd (ptN_pos h.2) (costs_get hcb (pt ts k).1.toNat)
    have e : (2772000000000 : Int) * ((k + 1 : Nat) : Int) = 2772000000000 * (k : Int) + 2772000000000 := by omega
    rw [e]
    simp only [tI]
    omega
theorem np_cases2 {n N : Nat} (h1 : 1 ≤ n) (h4 : n ≤ 4) (hN : N = 2 ^ n) : N = 2 ∧ n = 1 ∨ N = 4 ∧ n = 2 ∨ N = 8 ∧ n = 3 ∨ N = 16 ∧ n = 4 := by
  subst hN
  match n, h1, h4 with
  | 1, _, _ => simp
  | 2, _, _ => simp
  | 3, _, _ => simp
  | 4, _, _ => simp
/-- What CheckRefute answers. -/
def crB (c : List Int) (ts : List Pt) : Bool := if valC c then refI c ts (plr c) else false
theorem refI_bad {c : List Int} {ts : List Pt} {n k : Nat} (h : k < ts.length) (hb : goodI (2 ^ n) (prev ts k) (pt ts k) = false) : refI c ts n = false := by
  unfold refI
  rw [goodTo_stop h hb, Bool.and_false, Bool.false_and, Bool.false_and]

set_option maxRecDepth 100000 in
set_option maxHeartbeats 4000000 in
theorem checkrefute_ok (ac : Addr) (N capc : Nat) (A : Option Addr) (m cap n : Nat) (c : List Int) (ts : List Pt) (w : World) (hlc : c.length = N) (hv : valC c = true) (hnp : n = plr c) (hl : ts.length = m) (hm : m ≤ 9223372036854775807)
    (hc : Ints w (some ac) c) (h : Tps w A ts) (hr : ∀ t ∈ ts, (-9223372036854775808 ≤ t.1 ∧ t.1 ≤ 9223372036854775807) ∧ (-9223372036854775808 ≤ t.2.1 ∧ t.2.1 ≤ 9223372036854775807) ∧ -9223372036854775808 ≤ t.2.2 ∧ t.2.2 ≤ 9223372036854775807) :
    Calls Try.prog 43 #[.slice (some ac) N capc, .slice A m cap] w fun e w' => e = .returned (.tuple #[.bool (refI c ts n), .int .i64 0]) ∧ Below w.heap.size w w' := by
  have hpw := valC_pow hv
  rw [← hnp] at hpw
  have hn4 : 1 ≤ n ∧ n ≤ 4 := hpw.2
  have hN16 : 2 ≤ N ∧ N ≤ 16 := by have := (valC_iff.1 hv).1; omega
  have hmk := make_ints n (by omega)
  have hmm := @run_makeMap Try.prog
  have hN2 : N = 2 ^ n := by rw [← hlc]; exact hpw.1
  have hNP := np_cases2 hn4.1 hn4.2 hN2
  have hI := fun (hp : 0 < ts.length) => h.some_ hp
  have H := Lib.hid (And.intro hlc (And.intro hl (And.intro hc (And.intro hI (And.intro hr (And.intro hN2 (And.intro hv hNP)))))))
  clear hlc hl hc h hr hpw hv hnp hN2 hNP hI
  obtain ⟨R, hR⟩ : ∃ R, R = refI c ts n := ⟨_, rfl⟩
  rw [← hR]
  have HR := Lib.hid hR
  clear hR
  go_enter Try.func43, Try.ntmps43
  go_wp2_with fail
  refine (valid_any (some ac) N capc c _ H.out.1 (by omega) H.out.2.2.1).mono ?_
  rintro e w1 ⟨rfl, hb⟩
  rw [H.out.2.2.2.2.2.2.1]
  have HB := Lib.hid hb
  have hw1 := hb.size
  clear hb
  by_cases hmN : N ≤ m
  · have hF : Hid (R = false) := Lib.hid (by rw [HR.out]; unfold refI; rw [H.out.2.1, ← H.out.2.2.2.2.2.1, decide_eq_false (by omega)]; rfl)
    clear hmk hmm
    go_wp2_with fail
    go_ret2
    exact ⟨by rw [hF.out]; rfl, HB.out⟩
  · go_wp2_with fail
    refine (players_any _ _ n _ _ H.out.2.2.2.2.2.2.2).mono ?_
    rintro e w' ⟨rfl, rfl⟩
    go_wp2_with fail
    clear hmm
    go_loopw [8, 30] (fun tv iv wr => ∃ k : Nat, k ≤ m ∧ iv = .int .i64 k ∧ tv = .int .i64 (tI c ts k) ∧ goodTo N ts k = true ∧ Blk wr w1.heap.size 3 (arr (sRow ts k n)) ∧ SeenM wr (w1.heap.size + 1) k (prev ts k) ∧ Below w.heap.size w wr) (fun _ iv _ => m - (intOf iv).toNat)
    case atStart =>
      refine ⟨0, Nat.zero_le _, rfl, rfl, rfl, ?_, ?_, (HB.out.alloc hw1 _).alloc (by simp; omega) _⟩
      · rw [sRow_zero]
        exact (Blk.new _ _ _ rfl).alloc _
      · have := SeenM.made (w1.alloc (.cells (arr (List.replicate n 0)) 3))
        simpa [prev] using this
    case round =>
      obtain ⟨k, hk, rfl, rfl, hg, hS, hM, hbl⟩ := hrel
      obtain ⟨wo, rfl⟩ : ∃ wo : World, wo = wr := ⟨_, rfl⟩
      have hMlt := hM.lt
      have hws := hbl.size
      have htb := tI_bd (valC_iff.1 H.out.2.2.2.2.2.2.1).2.2 hg
      by_cases hlt : k < m
      · obtain ⟨hlc, hl, hc, hI, hr, hN2, hv, hNP⟩ := H.out
        obtain ⟨ad, rfl, _, hct⟩ := hI (by omega)
        obtain ⟨t, ht⟩ : ∃ t, ts[k]? = some t := ⟨_, List.getElem?_eq_getElem (by omega)⟩
        obtain ⟨g1, g2, g3⟩ := hct k t ht
        have c1 := (hbl.cell (lt_of_cell g1)).trans g1
        have c2 := (hbl.cell (lt_of_cell g2)).trans g2
        have c3 := (hbl.cell (lt_of_cell g3)).trans g3
        obtain ⟨hr1, hr2, hr3⟩ := hr t (List.mem_of_getElem? ht)
        have hpt := pt_get ht
        have hpv := prev_succ ht
        obtain ⟨s, a, b⟩ := t
        simp only at c1 c2 c3 hr1 hr2 hr3 hpv
        have hbad : goodI (2 ^ n) (prev ts k) (s, a, b) = false → R = false := fun hb => by rw [HR.out]; exact refI_bad (k := k) (by omega) (by rw [hpt]; exact hb)
        obtain ⟨T, hT⟩ : ∃ T, T = tI c ts k := ⟨_, rfl⟩
        rw [← hT] at htb ⊢
        have HX := Lib.hid (And.intro hg (And.intro hS (And.intro hM (And.intro hbl (And.intro hpt (And.intro hpv (And.intro hbad hT)))))))
        clear hlc hl hc hI hr hN2 hv hNP hct ht g1 g2 g3 hpt hpv hbad hg hS hM hbl hT
        cases hs : scB 12 a b
        · have HS := Lib.hid hs
          have HF : Hid (R = false) := Lib.hid (HX.out.2.2.2.2.2.2.1 (by unfold goodI; simp only [hs, Bool.false_and]))
          clear hs
          go_wp2_with fail
          refine (scaled_no a b _ 12 _ (by omega) hr2 hr3 HS.out).mono ?_
          rintro e w2 ⟨rfl, hb2⟩
          have HB2 := Lib.hid ((HX.out.2.2.2.1.alloc hws (.cells #[.int .i64 s, .int .i64 a, .int .i64 b] 80)).trans (hb2.mono (by simp; omega)))
          clear hb2
          go_wp2_with fail
          go_ret2
          exact ⟨by rw [HF.out]; rfl, HB2.out⟩
        · have HS := Lib.hid hs
          have hv1 : scN 27720 (a, b) = ptN (s, a, b) := rfl
          have hvp : 1 ≤ a → 1 ≤ ptN (s, a, b) ∧ ptN (s, a, b) ≤ 2772000000 := fun ha => ptN_pos (N := 2) (pv := []) (t := (1, a, b)) (goodI_iff.2 ⟨hs, ha, by simp, by simp, by simp⟩)
          have hvn : ¬ 1 ≤ a → ptN (s, a, b) ≤ 0 := fun ha => by
            obtain ⟨q1, q2, q3, q4, _⟩ := scB_iff.1 hs
            obtain ⟨kk, _, e, hk1⟩ := ptN_eq q1 q2
            unfold ptN
            simp only
            rw [e]
            exact Int.mul_nonpos_of_nonpos_of_nonneg (by omega) (by omega)
          obtain ⟨v, hvv⟩ : ∃ v, v = ptN (s, a, b) := ⟨_, rfl⟩
          rw [← hvv] at hv1 hvp hvn
          have HV := Lib.hid (And.intro hvv hv1)
          clear hs hv1 hvv
          go_wp2_with fail
          refine (scaled_yes a b 27720 12 _ (by omega) (by omega) HS.out).mono ?_
          rintro e w2 ⟨rfl, hb2⟩
          rw [HV.out.2]
          have hB2 : Blk w2 wo.heap.size 80 #[.int .i64 s, .int .i64 a, .int .i64 b] := (Blk.new _ _ _ rfl).below hb2 (by simp)
          have hS2 : Blk w2 w1.heap.size 3 (arr (sRow ts k n)) := (HX.out.2.1.alloc _).below hb2 (by simp; omega)
          have hM2 : SeenM w2 (w1.heap.size + 1) k (prev ts k) := (HX.out.2.2.1.below ((Below.refl wo.heap.size wo).alloc (Nat.le_refl _) _) hMlt).below hb2 (by simp; omega)
          have hbw2 := (HX.out.2.2.2.1.alloc hws (.cells #[.int .i64 s, .int .i64 a, .int .i64 b] 80)).trans (hb2.mono (by simp; omega))
          have p1 : w2.cell? ⟨wo.heap.size, 0, none⟩ = some (.int .i64 s) := hB2.cell 0
          have hB2lt := hB2.lt
          have H2 := Lib.hid (And.intro hB2 (And.intro hS2 (And.intro hM2 hbw2)))
          clear hb2 hB2 hS2 hM2 hbw2 c1 c2 c3
          by_cases ha : 1 ≤ a
          · have hv2 := hvp ha
            clear hvp hvn
            by_cases hs1 : s < 1
            · have HF : Hid (R = false) := Lib.hid (HX.out.2.2.2.2.2.2.1 (by rw [← Bool.not_eq_true]; intro h; have := goodI_iff.1 h; simp only at this; omega))
              go_wp2_with fail
              go_ret2
              exact ⟨by rw [HF.out]; rfl, H2.out.2.2.2⟩
            · by_cases hsN : (N : Int) ≤ s
              · have HF : Hid (R = false) := Lib.hid (HX.out.2.2.2.2.2.2.1 (by rw [← Bool.not_eq_true, ← H.out.2.2.2.2.2.1]; intro h; have := goodI_iff.1 h; simp only at this; omega))
                go_wp2_with fail
                go_ret2
                exact ⟨by rw [HF.out]; rfl, H2.out.2.2.2⟩
              · have hlook := H2.out.2.2.1.look (x := s) (by omega) (by omega)
                by_cases hin : s ∈ prev ts k
                · have HF : Hid (R = false) := Lib.hid (HX.out.2.2.2.2.2.2.1 (by rw [← Bool.not_eq_true]; intro h; have := goodI_iff.1 h; exact this.2.2.2.2 hin))
                  rw [decide_eq_true hin] at hlook
                  clear hin
                  go_wp2_with fail
                  go_ret2
                  exact ⟨by rw [HF.out]; rfl, H2.out.2.2.2⟩
                · rw [decide_eq_false hin] at hlook
                  have hgood : goodI N (prev ts k) (s, a, b) = true := goodI_iff.2 ⟨HS.out, ha, by simp only; omega, by simp only; omega, hin⟩
                  have hgk : goodTo N ts (k + 1) = true := by rw [goodTo_succ, HX.out.1, HX.out.2.2.2.2.1, hgood]; rfl
                  obtain ⟨w3, hrun, hM3, hg3⟩ := H2.out.2.2.1.store (x := s) (by omega) (by omega) (by omega)
                  obtain ⟨sn, rfl⟩ := Int.eq_ofNat_of_zero_le (show 0 ≤ s by omega)
                  obtain ⟨z, hz⟩ : ∃ z, c[sn]? = some z := ⟨_, List.getElem?_eq_getElem (by have := H.out.1; omega)⟩
                  have hzb := (valC_iff.1 H.out.2.2.2.2.2.2.1).2.2 z (List.mem_of_getElem? hz)
                  have hzv := nz_bd hv2 hzb
                  have hB3 : Blk w3 wo.heap.size 80 #[.int .i64 (sn : Int), .int .i64 a, .int .i64 b] := H2.out.1.grown hg3 (by simp; omega)
                  have hS3 : Blk w3 w1.heap.size 3 (arr (sRow ts k n)) := H2.out.2.1.grown hg3 (by simp)
                  have hbw3 : Below w.heap.size w w3 := H2.out.2.2.2.grown hg3 (by have := H2.out.2.2.2.size; omega) (fun i hi => by injection hi with hi; omega)
                  have c4 : w3.cell? (ac.add sn) = some (.int .i64 z) := (H.out.2.2.1.below hbw3).some2 sn _ (by simp [hz])
                  have q1 : w3.cell? ⟨wo.heap.size, 0, none⟩ = some (.int .i64 (sn : Int)) := hB3.cell 0
                  have htk : tI c ts (k + 1) = T + v * z := by
                    rw [tI, HX.out.2.2.2.2.1, ← HX.out.2.2.2.2.2.2.2, ← HV.out.1]
                    simp only [Int.toNat_natCast]
                    rw [List.getD_eq_getElem?_getD, hz]; rfl
                  have hsk : ∀ i, sI ts i (k + 1) = sI ts i k + v * (if sn.testBit i then 1 else 0 : Nat) := fun i => by
                    rw [sI, HX.out.2.2.2.2.1, ← HV.out.1]
                    simp only [Int.toNat_natCast]
                    split <;> rfl
                  obtain ⟨y, hy⟩ : ∃ y, y = v * z := ⟨_, rfl⟩
                  have hy2 : v * z = y := hy.symm
                  rw [hy2] at hzv htk
                  have e5 : wrap64 y = y := by rw [← wrapEq]; exact IntWalk.i64_in _ (by omega)
                  have hS3lt := hS3.lt
                  have hsz3 := hbw3.size
                  have H3 := Lib.hid (And.intro hB3 (And.intro hS3 (And.intro hM3 (And.intro hbw3 (And.intro htk (And.intro hsk (And.intro hgk hy)))))))
                  have hM3lt := hM3.lt
                  have hB3lt := hB3.lt
                  clear hB3 hS3 hM3 hbw3 htk hsk hgk hgood hz hg3 hin hy
                  go_wp2_with fail
                  clear hrun hlook hy2 e5 c4 p1
                  go_loopw [78] (fun jv wr => ∃ j : Nat, j ≤ n ∧ jv = .int .i64 j ∧ Blk wr w1.heap.size 3 (arr (sMix ts k j n)) ∧ SeenM wr (w1.heap.size + 1) (k + 1) (prev ts k ++ [(sn : Int)]) ∧ Blk wr wo.heap.size 80 #[.int .i64 (sn : Int), .int .i64 a, .int .i64 b] ∧ Below w.heap.size w wr) (fun jv _ => n - (intOf jv).toNat)
                  case atStart => exact ⟨0, Nat.zero_le _, rfl, by rw [sMix_zero]; exact H3.out.2.1, H3.out.2.2.1, H3.out.1, H3.out.2.2.2.1⟩
                  case round =>
                    obtain ⟨j, hj, rfl, hbS, hM, hB, hbl⟩ := hrel
                    by_cases hlj : j < n
                    · have hzz := sMix_get (ts := ts) (k := k) hlj
                      have hset := sMix_succ (ts := ts) (k := k) hlj
                      have ht0 := sI_bd (N := N) j HX.out.1
                      have hstep := H3.out.2.2.2.2.2.1 j
                      have hbit := and_shr sn j (by omega)
                      obtain ⟨zz, hze⟩ : ∃ zz, zz = sI ts j k := ⟨_, rfl⟩
                      rw [← hze] at hzz ht0 hstep
                      obtain ⟨bt, hbt⟩ : ∃ bt : Nat, bt = (if sn.testBit j then 1 else 0) := ⟨_, rfl⟩
                      have hb1 : bt ≤ 1 := by rw [hbt]; split <;> omega
                      rw [← hbt] at hbit hstep
                      have hvb : 0 ≤ v * (bt : Int) ∧ v * (bt : Int) ≤ 2772000000 := by
                        have : bt = 0 ∨ bt = 1 := by omega
                        rcases this with h | h <;> rw [h] <;> simp <;> omega
                      obtain ⟨vb, hvbe⟩ : ∃ vb, vb = v * (bt : Int) := ⟨_, rfl⟩
                      rw [← hvbe] at hstep hvb
                      rw [hstep] at hset
                      obtain ⟨z', hz'⟩ : ∃ z', z' = zz + vb := ⟨_, rfl⟩
                      rw [← hz'] at hset
                      have e1 : IntKind.i64.wrap vb = vb := IntWalk.i64_in _ (by omega)
                      have e2 : IntKind.i64.wrap (zz + vb) = z' := by rw [← hz']; exact IntWalk.i64_in _ (by omega)
                      have e3 : v * (bt : Int) = vb := hvbe.symm
                      have c1 : wr.cell? ⟨w1.heap.size, j, none⟩ = some (.int .i64 zz) := by rw [hbS.cell, arr_get, hzz]; rfl
                      have f1 : wr.frozen? ⟨w1.heap.size, j, none⟩ = false := hbS.frozen j
                      have q1 : wr.cell? ⟨wo.heap.size, 0, none⟩ = some (.int .i64 (sn : Int)) := hB.cell 0
                      have HN := Lib.hid (And.intro hset (And.intro hbS (And.intro hM (And.intro hB hbl))))
                      clear hzz hset ht0 hstep hze hbt hz' hvbe hbS hM hB hbl
                      go_wp2_with fail
                      go_region
                      go_wp2_with fail
                      go_roundw
                      case rel =>
                        refine ⟨j + 1, by omega, by go_num, ?_, ?_, ?_, HN.out.2.2.2.2.drew.setCell (by omega) _⟩
                        · rw [HN.out.1, ← arr_set]
                          exact Blk.set_ (w := wr.drew) HN.out.2.1 j _
                        · exact HN.out.2.2.1.kept (Below.heap_setCell wr.drew _ _ _ (by simp))
                        · exact Blk.far (w := wr.drew) HN.out.2.2.2.1 (by simp; omega) _
                      case measure => simp [intOf]; omega
                    · obtain rfl : n = j := by omega
                      rw [sMix_full] at hbS
                      have HN := Lib.hid (And.intro hbS (And.intro hM hbl))
                      clear hbS hM hB hbl
                      go_wp2_with fail
                      go_roundw
                      case rel => exact ⟨k + 1, by omega, by go_num, by rw [H3.out.2.2.2.2.1, H3.out.2.2.2.2.2.2.2], H3.out.2.2.2.2.2.2.1, HN.out.1, by rw [HX.out.2.2.2.2.2.1]; exact HN.out.2.1, HN.out.2.2⟩
                      case measure => simp [intOf]; omega
          · have hv2 := hvn (by omega)
            clear hvp hvn
            have HF : Hid (R = false) := Lib.hid (HX.out.2.2.2.2.2.2.1 (by rw [← Bool.not_eq_true]; intro h; have := goodI_iff.1 h; simp only at this; omega))
            go_wp2_with fail
            go_ret2
            exact ⟨by rw [HF.out]; rfl, H2.out.2.2.2⟩
      · obtain rfl : m = k := by omega
        obtain ⟨n1, hn1⟩ : ∃ n1, n1 + 1 = N := ⟨N - 1, by omega⟩
        obtain ⟨x, hx⟩ : ∃ x, c[n1]? = some x := ⟨_, List.getElem?_eq_getElem (by have := H.out.1; omega)⟩
        have hxb := (valC_iff.1 H.out.2.2.2.2.2.2.1).2.2 x (List.mem_of_getElem? hx)
        have c1 : wo.cell? (ac.add n1) = some (.int .i64 x) := (H.out.2.2.1.below hbl).some2 n1 _ (by simp [hx])
        have hones : (sRow ts m n).all (fun x => x == 27720) = onesI ts n := by rw [← ones_row, H.out.2.1]
        have hRe : R = (onesI ts n && decide (tI c ts m < x * 27720)) := by
          rw [HR.out]
          unfold refI
          rw [H.out.2.1, ← H.out.2.2.2.2.2.1, decide_eq_true (by omega), hg, show N - 1 = n1 from by omega, List.getD_eq_getElem?_getD, hx]
          rfl
        have hSi : Ints wo (some ⟨w1.heap.size, 0, none⟩) (sRow ts m n) := blk_ints hS
        obtain ⟨T, hT⟩ : ∃ T, T = tI c ts m := ⟨_, rfl⟩
        rw [← hT] at htb hRe ⊢
        have HX := Lib.hid (And.intro hbl (And.intro hones (And.intro hRe hSi)))
        clear hg hS hM hbl hx hones hRe hSi hT
        go_wp2_with fail
        refine (containsF_any _ n n (sRow ts m n) _ (sRow_length _ _ _) (by omega) HX.out.2.2.2).mono ?_
        rintro e w' ⟨rfl, rfl⟩
        rw [HX.out.2.1]
        cases ho : onesI ts n
        · have HF : Hid (R = false) := Lib.hid (by rw [HX.out.2.2.1, ho]; rfl)
          clear ho
          go_wp2_with fail
          go_ret2
          exact ⟨by rw [HF.out]; rfl, HX.out.1⟩
        · have HF : Hid (R = decide (T < x * 27720)) := Lib.hid (by rw [HX.out.2.2.1, ho]; rfl)
          clear ho
          go_wp2_with fail
          refine (all_any ac N n1 _ x _ hn1 hN16.2 c1).mono ?_
          rintro e w' ⟨rfl, rfl⟩
          go_wp2_with fail
          go_ret2
          exact ⟨by rw [HF.out]; rfl, HX.out.1⟩

theorem checkrefute_any (C : Option Addr) (N capc : Nat) (A : Option Addr) (m cap : Nat) (c : List Int) (ts : List Pt) (w : World) (hlc : c.length = N) (hNm : N ≤ 9223372036854775807) (hl : ts.length = m) (hm : m ≤ 9223372036854775807)
    (hc : Ints w C c) (h : Tps w A ts) (hr : ∀ t ∈ ts, (-9223372036854775808 ≤ t.1 ∧ t.1 ≤ 9223372036854775807) ∧ (-9223372036854775808 ≤ t.2.1 ∧ t.2.1 ≤ 9223372036854775807) ∧ -9223372036854775808 ≤ t.2.2 ∧ t.2.2 ≤ 9223372036854775807) :
    Calls Try.prog 43 #[.slice C N capc, .slice A m cap] w fun e w' => e = .returned (.tuple #[.bool (crB c ts), .int .i64 (ccE c)]) ∧ Below w.heap.size w w' := by
  cases hv : valC c
  · have HG : Hid (crB c ts = false ∧ ccE c = 2) := Lib.hid ⟨by simp [crB, hv], by simp [ccE, hv]⟩
    have H := Lib.hid (And.intro hlc (And.intro hc hv))
    clear hlc hl hc h hr hv
    go_enter Try.func43, Try.ntmps43
    go_wp2_with fail
    refine (valid_any C N capc c _ H.out.1 hNm H.out.2.1).mono ?_
    rintro e w1 ⟨rfl, hb⟩
    rw [H.out.2.2]
    have HB := Lib.hid hb
    clear hb
    go_wp2_with fail
    go_ret2
    exact ⟨by rw [HG.out.1, HG.out.2]; rfl, HB.out⟩
  · obtain ⟨ac, rfl, _, _⟩ := hc.some_ (by have := (valC_iff.1 hv).1; omega)
    have e1 : crB c ts = refI c ts (plr c) := by simp [crB, hv]
    have e2 : ccE c = 0 := by simp [ccE, hv]
    rw [e1, e2]
    exact checkrefute_ok ac N capc A m cap (plr c) c ts w hlc hv rfl hl hm hc h hr
end Go.Proofs.Ytbidboagaoifaaa
