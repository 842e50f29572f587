/- Contracts: fair, Envy and Fair of package split. -/
import Derived.Test.YtkljambjdiblkaaSFair
namespace Go.Proofs.Ytkljambjdiblkaa
open Go.RowKit

theorem take_all_succ {α : Type} {l : List α} {k : Nat} {x : α} {p : α → Bool} (h : l[k]? = some x) (h1 : (l.take k).all p = true) (h2 : p x = true) : (l.take (k + 1)).all p = true := by
  rw [List.take_add_one, h, List.all_append, h1]; simp [h2]
theorem all_bad {α : Type} {l : List α} {k : Nat} {x : α} {p : α → Bool} (h : l[k]? = some x) (h2 : p x = false) : l.all p = false := by
  rw [List.all_eq_false]; exact ⟨x, List.mem_of_getElem? h, by simp [h2]⟩
theorem range_all_succ {k : Nat} {p : Nat → Bool} (h1 : (List.range k).all p = true) (h2 : p k = true) : (List.range (k + 1)).all p = true := by
  rw [List.range_succ, List.all_append, h1]; simp [h2]
theorem range_bad {n k : Nat} {p : Nat → Bool} (h : k < n) (h2 : p k = false) : (List.range n).all p = false := by
  rw [List.all_eq_false]; exact ⟨k, List.mem_range.2 h, by simp [h2]⟩

set_option maxRecDepth 100000 in
set_option maxHeartbeats 3200000 in
theorem sfair_low (A : Option Addr) (n cap : Nat) (D : Option Addr) (m capd : Nat) (kind : Int) (V : List (List Int)) (d : List Int) (w : World) (hl : V.length = n) (hn : n ≤ 10) (hld : d.length = m) (hm : m ≤ 1000) (hk : 0 ≤ kind ∧ kind ≤ 2)
    (hr : ∀ i, i < n → (rowV V i).length = m ∧ ∀ x ∈ rowV V i, 0 ≤ x ∧ x ≤ 100) (hV : Mat w A V) (hD : Ints w D d) :
    Calls Try.prog 63 #[.slice A n cap, .slice D m capd, .int .i64 kind] w fun e w' => e = .returned (.bool (fairB V d n kind)) ∧ Below w.heap.size w w' := by
  have hfl := fairB_low (V := V) (d := d) (n := n) (kind := kind) (by omega)
  have H := Lib.hid (And.intro hl (And.intro hld (And.intro hr (And.intro hV (And.intro hD hfl)))))
  clear hl hld hr hV hD hfl
  have hkk : kind = 0 ∨ kind = 1 ∨ kind = 2 := by omega
  go_enter Try.func63, Try.ntmps63
  go_wp2_with fail
  refine (senvy_any A n cap D m capd V d _ H.out.1 hn H.out.2.1 hm H.out.2.2.1 H.out.2.2.2.1 H.out.2.2.2.2.1).mono ?_
  rintro e w1 ⟨A1, c1, rfl, hq, hP, hb1⟩
  obtain ⟨q, hqe⟩ : ∃ q, q = (envL V d n).length := ⟨_, rfl⟩
  rw [← hqe] at hq ⊢
  have H1 := Lib.hid (And.intro hqe (And.intro hP hb1))
  clear hqe hP hb1
  go_wp2_with fail
  go_loopw [17] (fun iv wr => ∃ k : Nat, k ≤ q ∧ iv = .int .i64 k ∧ ((envL V d n).take k).all (fun p => okE V d kind p.1 p.2) = true ∧ Below w1.heap.size w1 wr) (fun iv _ => q - (intOf iv).toNat)
  case atStart => exact ⟨0, Nat.zero_le _, rfl, by simp, Below.refl _ _⟩
  case round =>
    obtain ⟨k, hkq, rfl, hall, hbl⟩ := hrel
    have hwb : Below w.heap.size w wr := H1.out.2.2.trans (hbl.mono H1.out.2.2.size)
    have HR := Lib.hid (And.intro hall (And.intro hbl hwb))
    clear hall hbl hwb
    by_cases hlt : k < q
    · obtain ⟨p, hp⟩ : ∃ p, (envL V d n)[k]? = some p := ⟨_, List.getElem?_eq_getElem (by have := H1.out.1; omega)⟩
      obtain ⟨h1, h2, _⟩ := mem_envL.1 (List.mem_of_getElem? hp)
      obtain ⟨ad, rfl, _, hc⟩ := (H1.out.2.1.below HR.out.2.1).some_ (by have := H1.out.1; omega)
      obtain ⟨c1', c2'⟩ := hc k p hp
      have hB : Blk (wr.alloc (.cells #[.int .i64 (p.1 : Int), .int .i64 (p.2 : Int)] 38)) wr.heap.size 38 #[.int .i64 (p.1 : Int), .int .i64 (p.2 : Int)] := Blk.new _ _ _ rfl
      have HP := Lib.hid (And.intro hp (And.intro hB (And.intro h1 h2)))
      have l1 : (k : Int) < (q : Int) := by omega
      have hbal : ∀ o, Below wr.heap.size wr (wr.alloc o) := fun o => (Below.refl _ _).alloc (Nat.le_refl _) _
      have HAL := Lib.hid hbal
      clear hp h1 h2 hc hB hbal
      rcases hkk with rfl | rfl | rfl
      · have HF : Hid (false = fairB V d n 0) := Lib.hid (by rw [H.out.2.2.2.2.2]; exact (all_bad HP.out.1 (by simp [okE])).symm)
        go_wp2_with fail
        go_ret
        exact ⟨ret_bool HF.out, HR.out.2.2.trans ((HAL.out _).mono HR.out.2.2.size)⟩
      · have hup := fun (w8 : World) (hV : Mat w8 A V) (hD : Ints w8 D d) => sup_any A n cap D m capd p.1 p.2 false V d w8 H.out.1 (by omega) HP.out.2.2.1 H.out.2.1 hm (H.out.2.2.1 _ HP.out.2.2.1).1 (H.out.2.2.1 _ HP.out.2.2.1).2 hV hD
        have HUP := Lib.hid hup
        have hok : okE V d 1 p.1 p.2 = upB V d p.1 p.2 false := by simp [okE]
        have HOK := Lib.hid hok
        clear hup hok
        obtain ⟨a1, a2, _, _⟩ := HP.out.2.1.at2
        go_wp2_with fail
        refine (HUP.out _ ((H.out.2.2.2.1.below HR.out.2.2).below (HAL.out _)) ((H.out.2.2.2.2.1.below HR.out.2.2).below (HAL.out _))).mono ?_
        rintro e w' ⟨rfl, rfl⟩
        rw [← HOK.out]
        cases hv : okE V d 1 p.1 p.2
        · have HF : Hid (false = fairB V d n 1) := Lib.hid (by rw [H.out.2.2.2.2.2]; exact (all_bad HP.out.1 hv).symm)
          clear hv
          go_wp2_with fail
          go_ret
          exact ⟨ret_bool HF.out, HR.out.2.2.trans ((HAL.out _).mono HR.out.2.2.size)⟩
        · have HN := Lib.hid (take_all_succ HP.out.1 HR.out.1 hv)
          clear hv
          go_wp2_with fail
          go_roundw
          case rel => exact ⟨k + 1, by omega, by go_num, HN.out, HR.out.2.1.trans ((HAL.out _).mono HR.out.2.1.size)⟩
          case measure => simp [intOf]; omega
      · have hup := fun (w8 : World) (hV : Mat w8 A V) (hD : Ints w8 D d) => sup_any A n cap D m capd p.1 p.2 true V d w8 H.out.1 (by omega) HP.out.2.2.1 H.out.2.1 hm (H.out.2.2.1 _ HP.out.2.2.1).1 (H.out.2.2.1 _ HP.out.2.2.1).2 hV hD
        have HUP := Lib.hid hup
        have hok : okE V d 2 p.1 p.2 = upB V d p.1 p.2 true := by simp [okE]
        have HOK := Lib.hid hok
        clear hup hok
        obtain ⟨a1, a2, _, _⟩ := HP.out.2.1.at2
        go_wp2_with fail
        refine (HUP.out _ ((H.out.2.2.2.1.below HR.out.2.2).below (HAL.out _)) ((H.out.2.2.2.2.1.below HR.out.2.2).below (HAL.out _))).mono ?_
        rintro e w' ⟨rfl, rfl⟩
        rw [← HOK.out]
        cases hv : okE V d 2 p.1 p.2
        · have HF : Hid (false = fairB V d n 2) := Lib.hid (by rw [H.out.2.2.2.2.2]; exact (all_bad HP.out.1 hv).symm)
          clear hv
          go_wp2_with fail
          go_ret
          exact ⟨ret_bool HF.out, HR.out.2.2.trans ((HAL.out _).mono HR.out.2.2.size)⟩
        · have HN := Lib.hid (take_all_succ HP.out.1 HR.out.1 hv)
          clear hv
          go_wp2_with fail
          go_roundw
          case rel => exact ⟨k + 1, by omega, by go_num, HN.out, HR.out.2.1.trans ((HAL.out _).mono HR.out.2.1.size)⟩
          case measure => simp [intOf]; omega
    · obtain rfl : k = q := by omega
      have HF : Hid (true = fairB V d n kind) := Lib.hid (by
        have h := HR.out.1
        rw [List.take_of_length_le (by have := H1.out.1; omega)] at h
        rw [H.out.2.2.2.2.2, h])
      have l3 : kind < 3 := by omega
      clear hkk
      go_wp2_with fail
      go_ret
      exact ⟨ret_bool HF.out, HR.out.2.2⟩

set_option maxRecDepth 100000 in
set_option maxHeartbeats 3200000 in
theorem sfair_high (A : Option Addr) (n cap : Nat) (D : Option Addr) (m capd : Nat) (kind : Int) (V : List (List Int)) (d : List Int) (w : World) (hl : V.length = n) (hn : n ≤ 10) (hld : d.length = m) (hm : m ≤ 1000) (hk : kind = 3 ∨ kind = 4)
    (hr : ∀ i, i < n → (rowV V i).length = m ∧ ∀ x ∈ rowV V i, 0 ≤ x ∧ x ≤ 100) (hV : Mat w A V) (hD : Ints w D d) :
    Calls Try.prog 63 #[.slice A n cap, .slice D m capd, .int .i64 kind] w fun e w' => e = .returned (.bool (fairB V d n kind)) ∧ Below w.heap.size w w' := by
  have hfl := fairB_high (V := V) (d := d) (n := n) (kind := kind) (by omega)
  have H := Lib.hid (And.intro hl (And.intro hld (And.intro hr (And.intro hV (And.intro hD hfl)))))
  clear hl hld hr hV hD hfl
  have hk4 : (kind == 4) = decide (kind = 4) := rfl
  have HK4 := Lib.hid hk4
  have e0 : (kind == 0) = false := by rcases hk with rfl | rfl <;> rfl
  have e1 : (kind == 1) = false := by rcases hk with rfl | rfl <;> rfl
  have e2 : (kind == 2) = false := by rcases hk with rfl | rfl <;> rfl
  have e3 : ¬ kind < 3 := by omega
  clear hk4
  go_enter Try.func63, Try.ntmps63
  go_wp2_with fail
  refine (senvy_any A n cap D m capd V d _ H.out.1 hn H.out.2.1 hm H.out.2.2.1 H.out.2.2.2.1 H.out.2.2.2.2.1).mono ?_
  rintro e w1 ⟨A1, c1, rfl, hq, hP, hb1⟩
  obtain ⟨q, hqe⟩ : ∃ q, q = (envL V d n).length := ⟨_, rfl⟩
  rw [← hqe] at hq ⊢
  have H1 := Lib.hid (And.intro hqe (And.intro hP hb1))
  clear hqe hP hb1
  go_wp2_with fail
  go_loopw [17] (fun iv wr => ∃ k : Nat, k ≤ q ∧ iv = .int .i64 k ∧ Below w1.heap.size w1 wr) (fun iv _ => q - (intOf iv).toNat)
  case atStart => exact ⟨0, Nat.zero_le _, rfl, Below.refl _ _⟩
  case round =>
    obtain ⟨k, hkq, rfl, hbl⟩ := hrel
    have hwb : Below w.heap.size w wr := H1.out.2.2.trans (hbl.mono H1.out.2.2.size)
    have HR := Lib.hid (And.intro hbl hwb)
    clear hbl hwb
    by_cases hlt : k < q
    · obtain ⟨p, hp⟩ : ∃ p, (envL V d n)[k]? = some p := ⟨_, List.getElem?_eq_getElem (by have := H1.out.1; omega)⟩
      obtain ⟨ad, rfl, _, hc⟩ := (H1.out.2.1.below HR.out.1).some_ (by have := H1.out.1; omega)
      obtain ⟨c1', c2'⟩ := hc k p hp
      have l1 : (k : Int) < (q : Int) := by omega
      have hbal : ∀ o, Below wr.heap.size wr (wr.alloc o) := fun o => (Below.refl _ _).alloc (Nat.le_refl _) _
      have HAL := Lib.hid hbal
      clear hp hc hbal
      go_wp2_with fail
      go_roundw
      case rel => exact ⟨k + 1, by omega, by go_num, HR.out.1.trans ((HAL.out _).mono HR.out.1.size)⟩
      case measure => simp [intOf]; omega
    · obtain rfl : k = q := by omega
      obtain ⟨wo, rfl⟩ : ∃ wo : World, wo = wr := ⟨_, rfl⟩
      have HV := Lib.hid (And.intro (H.out.2.2.2.1.below HR.out.2) (H.out.2.2.2.2.1.below HR.out.2))
      go_wp2_with fail
      go_loop [42] (fun iv => ∃ i : Nat, i ≤ n ∧ iv = .int .i64 i ∧ (List.range i).all (fun i => partB V d n i (moreK V d kind i)) = true) (fun iv => n - (intOf iv).toNat)
      case atStart => exact ⟨0, Nat.zero_le _, rfl, by simp⟩
      case round =>
        obtain ⟨i, hin, rfl, hall⟩ := hrel
        have HA := Lib.hid hall
        clear hall
        by_cases hlti : i < n
        · obtain ⟨hr1, hr2⟩ := H.out.2.2.1 i hlti
          obtain ⟨ad, rfl, _, hc⟩ := HV.out.1.some_ (by have := H.out.1; omega)
          obtain ⟨A', c, h1, h2, h3, h4⟩ := hc i _ (List.getElem?_eq_getElem (by have := H.out.1; omega))
          have er : rowV V i = V[i]'(by have := H.out.1; omega) := rowV_get (List.getElem?_eq_getElem (by have := H.out.1; omega))
          rw [← er] at h1 h2 h4
          rw [hr1] at h1 h2
          have l2 : (i : Int) < (n : Int) := by omega
          have HI := Lib.hid (And.intro hr1 (And.intro hr2 h4))
          clear hr1 hr2 hc h4 er
          go_wp2_with fail
          go_loop [10, 47] (fun mv gv => ∃ g : Nat, g ≤ m ∧ gv = .int .i64 g ∧ mv = .int .i64 (if kind = 4 then mostTo (rowV V i) d i g else 0)) (fun _ gv => m - (intOf gv).toNat)
          case atStart => exact ⟨0, Nat.zero_le _, rfl, by simp [mostTo]⟩
          case round =>
            obtain ⟨g, hg, rfl, rfl⟩ := hrel
            by_cases hltg : g < m
            · obtain ⟨y, hy⟩ : ∃ y, d[g]? = some y := ⟨_, List.getElem?_eq_getElem (by have := H.out.2.1; omega)⟩
              obtain ⟨x, hx⟩ : ∃ x, (rowV V i)[g]? = some x := ⟨_, List.getElem?_eq_getElem (by have := HI.out.1; omega)⟩
              obtain ⟨dd, rfl, hcd⟩ := HV.out.2 g (.int .i64 y) (by rw [List.getElem?_map, hy]; rfl)
              obtain ⟨rd, rfl, hcr⟩ := HI.out.2.2 g (.int .i64 x) (by rw [List.getElem?_map, hx]; rfl)
              have hxb := HI.out.2.1 x (List.mem_of_getElem? hx)
              have hdg : d.getD g 0 = y := by rw [List.getD_eq_getElem?_getD, hy]; rfl
              have hxg : (rowV V i).getD g 0 = x := by rw [List.getD_eq_getElem?_getD, hx]; rfl
              have hmost : mostTo (rowV V i) d i (g + 1) = if y = (i : Int) then mostTo (rowV V i) d i g else max (mostTo (rowV V i) d i g) x := by rw [mostTo, hdg, hxg]
              have hmb := mostTo_bd HI.out.2.1 d i g
              have l3 : (g : Int) < (m : Int) := by omega
              clear hdg hxg hy hx
              generalize mostTo (rowV V i) d i g = mo at *
              by_cases hkk : kind = 4
              · have e4 : (kind == 4) = true := by rw [hkk]; rfl
                by_cases hyi : y = (i : Int)
                · have hb : (y != (i : Int)) = false := by simp [hyi]
                  have HN : Hid (mo = if kind = 4 then mostTo (rowV V i) d i (g + 1) else 0) := Lib.hid (by rw [if_pos hkk, hmost, if_pos hyi])
                  rw [if_pos hkk]
                  clear hyi hmost hkk
                  go_wp2_with fail
                  go_round
                  case rel => exact ⟨g + 1, by omega, by go_num, by rw [← HN.out]⟩
                  case measure => simp [intOf]; omega
                · have hb : (y != (i : Int)) = true := by rw [bne_iff_ne]; exact hyi
                  have HN : Hid (max mo x = if kind = 4 then mostTo (rowV V i) d i (g + 1) else 0) := Lib.hid (by rw [if_pos hkk, hmost, if_neg hyi])
                  rw [if_pos hkk]
                  clear hyi hmost hkk
                  by_cases hmx : mo < x
                  · have HN2 : Hid (max mo x = x) := Lib.hid (by omega)
                    go_wp2_with fail
                    go_round
                    case rel => exact ⟨g + 1, by omega, by go_num, by rw [← HN.out, HN2.out]⟩
                    case measure => simp [intOf]; omega
                  · have HN2 : Hid (max mo x = mo) := Lib.hid (by omega)
                    go_wp2_with fail
                    go_round
                    case rel => exact ⟨g + 1, by omega, by go_num, by rw [← HN.out, HN2.out]⟩
                    case measure => simp [intOf]; omega
              · have e4 : (kind == 4) = false := by simp [hkk]
                have HN : Hid ((0 : Int) = if kind = 4 then mostTo (rowV V i) d i (g + 1) else 0) := Lib.hid (by rw [if_neg hkk])
                rw [if_neg hkk]
                clear hmost hkk
                by_cases hyi : y = (i : Int)
                · have hb : (y != (i : Int)) = false := by simp [hyi]
                  clear hyi
                  go_wp2_with fail
                  go_round
                  case rel => exact ⟨g + 1, by omega, by go_num, by rw [← HN.out]⟩
                  case measure => simp [intOf]; omega
                · have hb : (y != (i : Int)) = true := by rw [bne_iff_ne]; exact hyi
                  clear hyi
                  go_wp2_with fail
                  go_round
                  case rel => exact ⟨g + 1, by omega, by go_num, by rw [← HN.out]⟩
                  case measure => simp [intOf]; omega
            · obtain rfl : g = m := by omega
              have hmo : (if kind = 4 then mostTo (rowV V i) d i g else 0) = moreK V d kind i := by unfold moreK; rw [H.out.2.1]
              rw [hmo]
              have hmb : 0 ≤ moreK V d kind i ∧ moreK V d kind i ≤ 100 := by
                have := mostTo_bd HI.out.2.1 d i d.length
                unfold moreK; split <;> omega
              have HPT : Hid (∀ p, p = partB V d n i (moreK V d kind i) → p = false → false = fairB V d n kind) := Lib.hid (fun p h1 h2 => by rw [H.out.2.2.2.2.2]; exact (range_bad hlti (by rw [← h1, h2])).symm)
              have HPN : Hid (∀ p, p = partB V d n i (moreK V d kind i) → p = true → (List.range (i + 1)).all (fun i => partB V d n i (moreK V d kind i)) = true) := Lib.hid (fun p h1 h2 => range_all_succ HA.out (by rw [← h1, h2]))
              obtain ⟨mk, hmk⟩ : ∃ mk, mk = moreK V d kind i := ⟨_, rfl⟩
              rw [← hmk] at hmb ⊢ HPT HPN
              clear hmo hmk
              go_wp2_with fail
              refine (spart_any (some ad) n cap D g capd i mk V d _ H.out.1 hn hlti H.out.2.1 hm hmb HI.out.1 HI.out.2.1 HV.out.1 HV.out.2).mono ?_
              rintro e w' ⟨rfl, rfl⟩
              cases hv : partB V d n i mk
              · have HF := Lib.hid (HPT.out _ rfl hv)
                clear hv
                go_wp2_with fail
                go_ret
                exact ⟨ret_bool HF.out, HR.out.2⟩
              · have HN := Lib.hid (HPN.out _ rfl hv)
                clear hv
                go_wp2_with fail
                go_round
                case rel => exact ⟨i + 1, by omega, by go_num, HN.out⟩
                case measure => simp [intOf]; omega
        · obtain rfl : i = n := by omega
          have HF : Hid (true = fairB V d i kind) := Lib.hid (by rw [H.out.2.2.2.2.2, HA.out])
          go_wp2_with fail
          go_ret
          exact ⟨ret_bool HF.out, HR.out.2⟩
end Go.Proofs.Ytkljambjdiblkaa
