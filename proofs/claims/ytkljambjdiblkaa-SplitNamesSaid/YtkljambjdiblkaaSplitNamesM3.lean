/- Laws and contracts that the proof of SplitNames uses, part 3. -/
import Derived.Test.YtkljambjdiblkaaSplitNamesM2
import Derived.Test.YtkljambjdiblkaaSplitNamesM1
import Derived.Laws.CopyOwn
import Derived.Deep.RegionLaw
import Derived.Deep.RegionHeld3
namespace Go.Proofs.Ytkljambjdiblkaa
open Go.RowKit

/- Contracts: fair, Envy and Fair of package split. -/

theorem take_all_succ {α : Type} {l : List α} {k : Nat} {x : α} {p : α → Bool} (h : l[k]? = some x) (h1 : (l.take k).all p = true) (h2 : p x = true) : (l.take (k + 1)).all p = true := by
  rw [List.take_add_one, h, List.all_append, h1]; simp [h2]
theorem all_bad {α : Type} {l : List α} {k : Nat} {x : α} {p : α → Bool} (h : l[k]? = some x) (h2 : p x = false) : l.all p = false := by
  rw [List.all_eq_false]; exact ⟨x, List.mem_of_getElem? h, by simp [h2]⟩
theorem range_all_succ {k : Nat} {p : Nat → Bool} (h1 : (List.range k).all p = true) (h2 : p k = true) : (List.range (k + 1)).all p = true := by
  rw [List.range_succ, List.all_append, h1]; simp [h2]
theorem range_bad {n k : Nat} {p : Nat → Bool} (h : k < n) (h2 : p k = false) : (List.range n).all p = false := by
  rw [List.all_eq_false]; exact ⟨k, List.mem_range.2 h, by simp [h2]⟩

set_option maxRecDepth 100000 in
set_option maxHeartbeats 3200000 in
theorem sfair_low (A : Option Addr) (n cap : Nat) (D : Option Addr) (m capd : Nat) (kind : Int) (V : List (List Int)) (d : List Int) (w : World) (hl : V.length = n) (hn : n ≤ 10) (hld : d.length = m) (hm : m ≤ 1000) (hk : 0 ≤ kind ∧ kind ≤ 2)
    (hr : ∀ i, i < n → (rowV V i).length = m ∧ ∀ x ∈ rowV V i, 0 ≤ x ∧ x ≤ 100) (hV : Mat w A V) (hD : Ints w D d) :
    Calls Try.prog 63 #[.slice A n cap, .slice D m capd, .int .i64 kind] w fun e w' => e = .returned (.bool (fairB V d n kind)) ∧ Below w.heap.size w w' := by
  have hfl := fairB_low (V := V) (d := d) (n := n) (kind := kind) (by omega)
  have H := Lib.hid (And.intro hl (And.intro hld (And.intro hr (And.intro hV (And.intro hD hfl)))))
  clear hl hld hr hV hD hfl
  have hkk : kind = 0 ∨ kind = 1 ∨ kind = 2 := by omega
  go_enter Try.func63, Try.ntmps63
  go_wp2_with fail
  refine (senvy_any A n cap D m capd V d _ H.out.1 hn H.out.2.1 hm H.out.2.2.1 H.out.2.2.2.1 H.out.2.2.2.2.1).mono ?_
  rintro e w1 ⟨A1, c1, rfl, hq, hP, hb1⟩
  obtain ⟨q, hqe⟩ : ∃ q, q = (envL V d n).length := ⟨_, rfl⟩
  rw [← hqe] at hq ⊢
  have H1 := Lib.hid (And.intro hqe (And.intro hP hb1))
  clear hqe hP hb1
  go_wp2_with fail
  go_loopw [17] (fun iv wr => ∃ k : Nat, k ≤ q ∧ iv = .int .i64 k ∧ ((envL V d n).take k).all (fun p => okE V d kind p.1 p.2) = true ∧ Below w1.heap.size w1 wr) (fun iv _ => q - (intOf iv).toNat)
  case atStart => exact ⟨0, Nat.zero_le _, rfl, by simp, Below.refl _ _⟩
  case round =>
    obtain ⟨k, hkq, rfl, hall, hbl⟩ := hrel
    have hwb : Below w.heap.size w wr := H1.out.2.2.trans (hbl.mono H1.out.2.2.size)
    have HR := Lib.hid (And.intro hall (And.intro hbl hwb))
    clear hall hbl hwb
    by_cases hlt : k < q
    · obtain ⟨p, hp⟩ : ∃ p, (envL V d n)[k]? = some p := ⟨_, List.getElem?_eq_getElem (by have := H1.out.1; omega)⟩
      obtain ⟨h1, h2, _⟩ := mem_envL.1 (List.mem_of_getElem? hp)
      obtain ⟨ad, rfl, _, hc⟩ := (H1.out.2.1.below HR.out.2.1).some_ (by have := H1.out.1; omega)
      obtain ⟨c1', c2'⟩ := hc k p hp
      have hB : Blk (wr.alloc (.cells #[.int .i64 (p.1 : Int), .int .i64 (p.2 : Int)] 38)) wr.heap.size 38 #[.int .i64 (p.1 : Int), .int .i64 (p.2 : Int)] := Blk.new _ _ _ rfl
      have HP := Lib.hid (And.intro hp (And.intro hB (And.intro h1 h2)))
      have l1 : (k : Int) < (q : Int) := by omega
      have hbal : ∀ o, Below wr.heap.size wr (wr.alloc o) := fun o => (Below.refl _ _).alloc (Nat.le_refl _) _
      have HAL := Lib.hid hbal
      clear hp h1 h2 hc hB hbal
      rcases hkk with rfl | rfl | rfl
      · have HF : Hid (false = fairB V d n 0) := Lib.hid (by rw [H.out.2.2.2.2.2]; exact (all_bad HP.out.1 (by simp [okE])).symm)
        go_wp2_with fail
        go_ret
        exact ⟨ret_bool HF.out, HR.out.2.2.trans ((HAL.out _).mono HR.out.2.2.size)⟩
      · have hup := fun (w8 : World) (hV : Mat w8 A V) (hD : Ints w8 D d) => sup_any A n cap D m capd p.1 p.2 false V d w8 H.out.1 (by omega) HP.out.2.2.1 H.out.2.1 hm (H.out.2.2.1 _ HP.out.2.2.1).1 (H.out.2.2.1 _ HP.out.2.2.1).2 hV hD
        have HUP := Lib.hid hup
        have hok : okE V d 1 p.1 p.2 = upB V d p.1 p.2 false := by simp [okE]
        have HOK := Lib.hid hok
        clear hup hok
        obtain ⟨a1, a2, _, _⟩ := HP.out.2.1.at2
        go_wp2_with fail
        refine (HUP.out _ ((H.out.2.2.2.1.below HR.out.2.2).below (HAL.out _)) ((H.out.2.2.2.2.1.below HR.out.2.2).below (HAL.out _))).mono ?_
        rintro e w' ⟨rfl, rfl⟩
        rw [← HOK.out]
        cases hv : okE V d 1 p.1 p.2
        · have HF : Hid (false = fairB V d n 1) := Lib.hid (by rw [H.out.2.2.2.2.2]; exact (all_bad HP.out.1 hv).symm)
          clear hv
          go_wp2_with fail
          go_ret
          exact ⟨ret_bool HF.out, HR.out.2.2.trans ((HAL.out _).mono HR.out.2.2.size)⟩
        · have HN := Lib.hid (take_all_succ HP.out.1 HR.out.1 hv)
          clear hv
          go_wp2_with fail
          go_roundw
          case rel => exact ⟨k + 1, by omega, by go_num, HN.out, HR.out.2.1.trans ((HAL.out _).mono HR.out.2.1.size)⟩
          case measure => simp [intOf]; omega
      · have hup := fun (w8 : World) (hV : Mat w8 A V) (hD : Ints w8 D d) => sup_any A n cap D m capd p.1 p.2 true V d w8 H.out.1 (by omega) HP.out.2.2.1 H.out.2.1 hm (H.out.2.2.1 _ HP.out.2.2.1).1 (H.out.2.2.1 _ HP.out.2.2.1).2 hV hD
        have HUP := Lib.hid hup
        have hok : okE V d 2 p.1 p.2 = upB V d p.1 p.2 true := by simp [okE]
        have HOK := Lib.hid hok
        clear hup hok
        obtain ⟨a1, a2, _, _⟩ := HP.out.2.1.at2
        go_wp2_with fail
        refine (HUP.out _ ((H.out.2.2.2.1.below HR.out.2.2).below (HAL.out _)) ((H.out.2.2.2.2.1.below HR.out.2.2).below (HAL.out _))).mono ?_
        rintro e w' ⟨rfl, rfl⟩
        rw [← HOK.out]
        cases hv : okE V d 2 p.1 p.2
        · have HF : Hid (false = fairB V d n 2) := Lib.hid (by rw [H.out.2.2.2.2.2]; exact (all_bad HP.out.1 hv).symm)
          clear hv
          go_wp2_with fail
          go_ret
          exact ⟨ret_bool HF.out, HR.out.2.2.trans ((HAL.out _).mono HR.out.2.2.size)⟩
        · have HN := Lib.hid (take_all_succ HP.out.1 HR.out.1 hv)
          clear hv
          go_wp2_with fail
          go_roundw
          case rel => exact ⟨k + 1, by omega, by go_num, HN.out, HR.out.2.1.trans ((HAL.out _).mono HR.out.2.1.size)⟩
          case measure => simp [intOf]; omega
    · obtain rfl : k = q := by omega
      have HF : Hid (true = fairB V d n kind) := Lib.hid (by
        have h := HR.out.1
        rw [List.take_of_length_le (by have := H1.out.1; omega)] at h
        rw [H.out.2.2.2.2.2, h])
      have l3 : kind < 3 := by omega
      clear hkk
      go_wp2_with fail
      go_ret
      exact ⟨ret_bool HF.out, HR.out.2.2⟩

set_option maxRecDepth 100000 in
set_option maxHeartbeats 3200000 in
theorem sfair_high (A : Option Addr) (n cap : Nat) (D : Option Addr) (m capd : Nat) (kind : Int) (V : List (List Int)) (d : List Int) (w : World) (hl : V.length = n) (hn : n ≤ 10) (hld : d.length = m) (hm : m ≤ 1000) (hk : kind = 3 ∨ kind = 4)
    (hr : ∀ i, i < n → (rowV V i).length = m ∧ ∀ x ∈ rowV V i, 0 ≤ x ∧ x ≤ 100) (hV : Mat w A V) (hD : Ints w D d) :
    Calls Try.prog 63 #[.slice A n cap, .slice D m capd, .int .i64 kind] w fun e w' => e = .returned (.bool (fairB V d n kind)) ∧ Below w.heap.size w w' := by
  have hfl := fairB_high (V := V) (d := d) (n := n) (kind := kind) (by omega)
  have H := Lib.hid (And.intro hl (And.intro hld (And.intro hr (And.intro hV (And.intro hD hfl)))))
  clear hl hld hr hV hD hfl
  have hk4 : (kind == 4) = decide (kind = 4) := rfl
  have HK4 := Lib.hid hk4
  have e0 : (kind == 0) = false := by rcases hk with rfl | rfl <;> rfl
  have e1 : (kind == 1) = false := by rcases hk with rfl | rfl <;> rfl
  have e2 : (kind == 2) = false := by rcases hk with rfl | rfl <;> rfl
  have e3 : ¬ kind < 3 := by omega
  clear hk4
  go_enter Try.func63, Try.ntmps63
  go_wp2_with fail
  refine (senvy_any A n cap D m capd V d _ H.out.1 hn H.out.2.1 hm H.out.2.2.1 H.out.2.2.2.1 H.out.2.2.2.2.1).mono ?_
  rintro e w1 ⟨A1, c1, rfl, hq, hP, hb1⟩
  obtain ⟨q, hqe⟩ : ∃ q, q = (envL V d n).length := ⟨_, rfl⟩
  rw [← hqe] at hq ⊢
  have H1 := Lib.hid (And.intro hqe (And.intro hP hb1))
  clear hqe hP hb1
  go_wp2_with fail
  go_loopw [17] (fun iv wr => ∃ k : Nat, k ≤ q ∧ iv = .int .i64 k ∧ Below w1.heap.size w1 wr) (fun iv _ => q - (intOf iv).toNat)
  case atStart => exact ⟨0, Nat.zero_le _, rfl, Below.refl _ _⟩
  case round =>
    obtain ⟨k, hkq, rfl, hbl⟩ := hrel
    have hwb : Below w.heap.size w wr := H1.out.2.2.trans (hbl.mono H1.out.2.2.size)
    have HR := Lib.hid (And.intro hbl hwb)
    clear hbl hwb
    by_cases hlt : k < q
    · obtain ⟨p, hp⟩ : ∃ p, (envL V d n)[k]? = some p := ⟨_, List.getElem?_eq_getElem (by have := H1.out.1; omega)⟩
      obtain ⟨ad, rfl, _, hc⟩ := (H1.out.2.1.below HR.out.1).some_ (by have := H1.out.1; omega)
      obtain ⟨c1', c2'⟩ := hc k p hp
      have l1 : (k : Int) < (q : Int) := by omega
      have hbal : ∀ o, Below wr.heap.size wr (wr.alloc o) := fun o => (Below.refl _ _).alloc (Nat.le_refl _) _
      have HAL := Lib.hid hbal
      clear hp hc hbal
      go_wp2_with fail
      go_roundw
      case rel => exact ⟨k + 1, by omega, by go_num, HR.out.1.trans ((HAL.out _).mono HR.out.1.size)⟩
      case measure => simp [intOf]; omega
    · obtain rfl : k = q := by omega
      obtain ⟨wo, rfl⟩ : ∃ wo : World, wo = wr := ⟨_, rfl⟩
      have HV := Lib.hid (And.intro (H.out.2.2.2.1.below HR.out.2) (H.out.2.2.2.2.1.below HR.out.2))
      go_wp2_with fail
      go_loop [42] (fun iv => ∃ i : Nat, i ≤ n ∧ iv = .int .i64 i ∧ (List.range i).all (fun i => partB V d n i (moreK V d kind i)) = true) (fun iv => n - (intOf iv).toNat)
      case atStart => exact ⟨0, Nat.zero_le _, rfl, by simp⟩
      case round =>
        obtain ⟨i, hin, rfl, hall⟩ := hrel
        have HA := Lib.hid hall
        clear hall
        by_cases hlti : i < n
        · obtain ⟨hr1, hr2⟩ := H.out.2.2.1 i hlti
          obtain ⟨ad, rfl, _, hc⟩ := HV.out.1.some_ (by have := H.out.1; omega)
          obtain ⟨A', c, h1, h2, h3, h4⟩ := hc i _ (List.getElem?_eq_getElem (by have := H.out.1; omega))
          have er : rowV V i = V[i]'(by have := H.out.1; omega) := rowV_get (List.getElem?_eq_getElem (by have := H.out.1; omega))
          rw [← er] at h1 h2 h4
          rw [hr1] at h1 h2
          have l2 : (i : Int) < (n : Int) := by omega
          have HI := Lib.hid (And.intro hr1 (And.intro hr2 h4))
          clear hr1 hr2 hc h4 er
          go_wp2_with fail
          go_loop [10, 47] (fun mv gv => ∃ g : Nat, g ≤ m ∧ gv = .int .i64 g ∧ mv = .int .i64 (if kind = 4 then mostTo (rowV V i) d i g else 0)) (fun _ gv => m - (intOf gv).toNat)
          case atStart => exact ⟨0, Nat.zero_le _, rfl, by simp [mostTo]⟩
          case round =>
            obtain ⟨g, hg, rfl, rfl⟩ := hrel
            by_cases hltg : g < m
            · obtain ⟨y, hy⟩ : ∃ y, d[g]? = some y := ⟨_, List.getElem?_eq_getElem (by have := H.out.2.1; omega)⟩
              obtain ⟨x, hx⟩ : ∃ x, (rowV V i)[g]? = some x := ⟨_, List.getElem?_eq_getElem (by have := HI.out.1; omega)⟩
              obtain ⟨dd, rfl, hcd⟩ := HV.out.2 g (.int .i64 y) (by rw [List.getElem?_map, hy]; rfl)
              obtain ⟨rd, rfl, hcr⟩ := HI.out.2.2 g (.int .i64 x) (by rw [List.getElem?_map, hx]; rfl)
              have hxb := HI.out.2.1 x (List.mem_of_getElem? hx)
              have hdg : d.getD g 0 = y := by rw [List.getD_eq_getElem?_getD, hy]; rfl
              have hxg : (rowV V i).getD g 0 = x := by rw [List.getD_eq_getElem?_getD, hx]; rfl
              have hmost : mostTo (rowV V i) d i (g + 1) = if y = (i : Int) then mostTo (rowV V i) d i g else max (mostTo (rowV V i) d i g) x := by rw [mostTo, hdg, hxg]
              have hmb := mostTo_bd HI.out.2.1 d i g
              have l3 : (g : Int) < (m : Int) := by omega
              clear hdg hxg hy hx
              generalize mostTo (rowV V i) d i g = mo at *
              by_cases hkk : kind = 4
              · have e4 : (kind == 4) = true := by rw [hkk]; rfl
                by_cases hyi : y = (i : Int)
                · have hb : (y != (i : Int)) = false := by simp [hyi]
                  have HN : Hid (mo = if kind = 4 then mostTo (rowV V i) d i (g + 1) else 0) := Lib.hid (by rw [if_pos hkk, hmost, if_pos hyi])
                  rw [if_pos hkk]
                  clear hyi hmost hkk
                  go_wp2_with fail
                  go_round
                  case rel => exact ⟨g + 1, by omega, by go_num, by rw [← HN.out]⟩
                  case measure => simp [intOf]; omega
                · have hb : (y != (i : Int)) = true := by rw [bne_iff_ne]; exact hyi
                  have HN : Hid (max mo x = if kind = 4 then mostTo (rowV V i) d i (g + 1) else 0) := Lib.hid (by rw [if_pos hkk, hmost, if_neg hyi])
                  rw [if_pos hkk]
                  clear hyi hmost hkk
                  by_cases hmx : mo < x
                  · have HN2 : Hid (max mo x = x) := Lib.hid (by omega)
                    go_wp2_with fail
                    go_round
                    case rel => exact ⟨g + 1, by omega, by go_num, by rw [← HN.out, HN2.out]⟩
                    case measure => simp [intOf]; omega
                  · have HN2 : Hid (max mo x = mo) := Lib.hid (by omega)
                    go_wp2_with fail
                    go_round
                    case rel => exact ⟨g + 1, by omega, by go_num, by rw [← HN.out, HN2.out]⟩
                    case measure => simp [intOf]; omega
              · have e4 : (kind == 4) = false := by simp [hkk]
                have HN : Hid ((0 : Int) = if kind = 4 then mostTo (rowV V i) d i (g + 1) else 0) := Lib.hid (by rw [if_neg hkk])
                rw [if_neg hkk]
                clear hmost hkk
                by_cases hyi : y = (i : Int)
                · have hb : (y != (i : Int)) = false := by simp [hyi]
                  clear hyi
                  go_wp2_with fail
                  go_round
                  case rel => exact ⟨g + 1, by omega, by go_num, by rw [← HN.out]⟩
                  case measure => simp [intOf]; omega
                · have hb : (y != (i : Int)) = true := by rw [bne_iff_ne]; exact hyi
                  clear hyi
                  go_wp2_with fail
                  go_round
                  case rel => exact ⟨g + 1, by omega, by go_num, by rw [← HN.out]⟩
                  case measure => simp [intOf]; omega
            · obtain rfl : g = m := by omega
              have hmo : (if kind = 4 then mostTo (rowV V i) d i g else 0) = moreK V d kind i := by unfold moreK; rw [H.out.2.1]
              rw [hmo]
              have hmb : 0 ≤ moreK V d kind i ∧ moreK V d kind i ≤ 100 := by
                have := mostTo_bd HI.out.2.1 d i d.length
                unfold moreK; split <;> omega
              have HPT : Hid (∀ p, p = partB V d n i (moreK V d kind i) → p = false → false = fairB V d n kind) := Lib.hid (fun p h1 h2 => by rw [H.out.2.2.2.2.2]; exact (range_bad hlti (by rw [← h1, h2])).symm)
              have HPN : Hid (∀ p, p = partB V d n i (moreK V d kind i) → p = true → (List.range (i + 1)).all (fun i => partB V d n i (moreK V d kind i)) = true) := Lib.hid (fun p h1 h2 => range_all_succ HA.out (by rw [← h1, h2]))
              obtain ⟨mk, hmk⟩ : ∃ mk, mk = moreK V d kind i := ⟨_, rfl⟩
              rw [← hmk] at hmb ⊢ HPT HPN
              clear hmo hmk
              go_wp2_with fail
              refine (spart_any (some ad) n cap D g capd i mk V d _ H.out.1 hn hlti H.out.2.1 hm hmb HI.out.1 HI.out.2.1 HV.out.1 HV.out.2).mono ?_
              rintro e w' ⟨rfl, rfl⟩
              cases hv : partB V d n i mk
              · have HF := Lib.hid (HPT.out _ rfl hv)
                clear hv
                go_wp2_with fail
                go_ret
                exact ⟨ret_bool HF.out, HR.out.2⟩
              · have HN := Lib.hid (HPN.out _ rfl hv)
                clear hv
                go_wp2_with fail
                go_round
                case rel => exact ⟨i + 1, by omega, by go_num, HN.out⟩
                case measure => simp [intOf]; omega
        · obtain rfl : i = n := by omega
          have HF : Hid (true = fairB V d i kind) := Lib.hid (by rw [H.out.2.2.2.2.2, HA.out])
          go_wp2_with fail
          go_ret
          exact ⟨ret_bool HF.out, HR.out.2⟩

/- Contracts: Envy and Fair of package split. -/

theorem divV_len {V : List (List Int)} {d : List Int} {m : Nat} (h : divV V d = true) (hm : m = (rowV V 0).length) : d.length = m := by
  unfold divV at h
  simp only [Bool.and_eq_true, decide_eq_true_eq] at h
  rw [hm]; exact h.1

/-- What Envy leaves. -/
def EnvyPost0 (V : List (List Int)) (d : List Int) (w : World) (e : Ending) (w' : World) : Prop :=
  ((valV V && divV V d) = false ∧ e = .returned (.tuple #[.slice none 0 0, .int .i64 2]) ∧ Below w.heap.size w w') ∨
  ((valV V && divV V d) = true ∧ ∃ A c, e = .returned (.tuple #[.slice A (envL V d V.length).length c, .int .i64 0]) ∧ (envL V d V.length).length ≤ 1000 ∧ Pairs w' A (envL V d V.length) ∧ Below w.heap.size w w')

set_option maxHeartbeats 1600000 in
theorem senvy0_any (A D : Option Addr) (n cap nd capd : Nat) (V : List (List Int)) (d : List Int) (w : World) (hl : V.length = n) (hn : n ≤ 9223372036854775807) (hV : Mat w A V) (hld : d.length = nd) (hnd : nd ≤ 9223372036854775807) (hD : Ints w D d) :
    Calls Try.prog 32 #[.slice A n cap, .slice D nd capd] w (EnvyPost0 V d w) := by
  have H := Lib.hid (And.intro hl (And.intro hV (And.intro hld hD)))
  clear hl hV hld hD
  go_enter Try.func32, Try.ntmps32
  go_wp2_with fail
  refine (svalid_any A n cap V _ H.out.1 hn H.out.2.1).mono ?_
  rintro e w1 ⟨rfl, hb1⟩
  have H1 := Lib.hid hb1
  clear hb1
  cases hv : valV V
  · have HV := Lib.hid hv
    clear hv
    go_wp2_with fail
    go_ret2
    exact .inl ⟨by rw [HV.out]; rfl, rfl, H1.out⟩
  · have hv1 := valV_iff.1 hv
    have hn4 : 1 ≤ n ∧ n ≤ 4 := by rw [← H.out.1]; exact hv1.1
    obtain ⟨m, hm⟩ : ∃ m, m = (rowV V 0).length := ⟨_, rfl⟩
    have hm7 : 1 ≤ m ∧ m ≤ 7 := by rw [hm]; exact hv1.2.1
    have HV := Lib.hid (And.intro hv (And.intro hm (valV_rows hv hm)))
    clear hv hv1 hm
    go_wp2_with fail
    refine (sdivision_any A D n cap nd capd m V d w1 H.out.1 (by omega) HV.out.2.1 (by omega) (H.out.2.1.below H1.out) H.out.2.2.1 hnd (H.out.2.2.2.below H1.out)).mono ?_
    rintro e w2 ⟨rfl, hb2⟩
    have H2 := Lib.hid (H1.out.trans (hb2.mono H1.out.size))
    clear hb2
    cases hd : divV V d
    · have HD := Lib.hid hd
      clear hd
      go_wp2_with fail
      go_ret2
      exact .inl ⟨by rw [HD.out, Bool.and_false], rfl, H2.out⟩
    · have hdm : nd = m := by rw [← H.out.2.2.1]; exact divV_len hd HV.out.2.1
      subst hdm
      have HD := Lib.hid hd
      clear hd
      go_wp2_with fail
      refine (senvy_any A n cap D nd capd V d w2 H.out.1 (by omega) H.out.2.2.1 (by omega) (by rw [← H.out.1]; exact HV.out.2.2) (H.out.2.1.below H2.out) (H.out.2.2.2.below H2.out)).mono ?_
      rintro e w3 ⟨A3, c3, rfl, hq, hP, hb3⟩
      obtain ⟨q, hqe⟩ : ∃ q, q = (envL V d n).length := ⟨_, rfl⟩
      rw [← hqe] at hq ⊢
      have H3 := Lib.hid (And.intro hqe (And.intro hP (H2.out.trans (hb3.mono H2.out.size))))
      clear hqe hP hb3
      go_wp2_with fail
      go_ret2
      refine .inr ⟨by rw [HV.out.1, HD.out]; rfl, A3, c3, ?_, ?_, ?_, H3.out.2.2⟩
      · rw [H.out.1, ← H3.out.1]; rfl
      · rw [H.out.1, ← H3.out.1]; exact hq
      · rw [H.out.1]; exact H3.out.2.1

/-- What Fair leaves. -/
def FairPost0 (V : List (List Int)) (d : List Int) (kind : Int) (w : World) (e : Ending) (w' : World) : Prop :=
  ((valV V && divV V d && decide (0 ≤ kind) && decide (kind ≤ 4)) = false ∧ e = .returned (.tuple #[.bool false, .int .i64 2]) ∧ Below w.heap.size w w') ∨
  ((valV V && divV V d && decide (0 ≤ kind) && decide (kind ≤ 4)) = true ∧ e = .returned (.tuple #[.bool (fairB V d V.length kind), .int .i64 0]) ∧ Below w.heap.size w w')

set_option maxHeartbeats 1600000 in
theorem sfair0_any (A D : Option Addr) (n cap nd capd : Nat) (kind : Int) (V : List (List Int)) (d : List Int) (w : World) (hl : V.length = n) (hn : n ≤ 9223372036854775807) (hV : Mat w A V) (hld : d.length = nd) (hnd : nd ≤ 9223372036854775807) (hD : Ints w D d) :
    Calls Try.prog 31 #[.slice A n cap, .slice D nd capd, .int .i64 kind] w (FairPost0 V d kind w) := by
  have H := Lib.hid (And.intro hl (And.intro hV (And.intro hld hD)))
  clear hl hV hld hD
  go_enter Try.func31, Try.ntmps31
  go_wp2_with fail
  refine (svalid_any A n cap V _ H.out.1 hn H.out.2.1).mono ?_
  rintro e w1 ⟨rfl, hb1⟩
  have H1 := Lib.hid hb1
  clear hb1
  cases hv : valV V
  · have HV := Lib.hid hv
    clear hv
    go_wp2_with fail
    go_ret2
    exact .inl ⟨by rw [HV.out]; rfl, rfl, H1.out⟩
  · have hv1 := valV_iff.1 hv
    have hn4 : 1 ≤ n ∧ n ≤ 4 := by rw [← H.out.1]; exact hv1.1
    obtain ⟨m, hm⟩ : ∃ m, m = (rowV V 0).length := ⟨_, rfl⟩
    have hm7 : 1 ≤ m ∧ m ≤ 7 := by rw [hm]; exact hv1.2.1
    have HV := Lib.hid (And.intro hv (And.intro hm (valV_rows hv hm)))
    clear hv hv1 hm
    go_wp2_with fail
    refine (sdivision_any A D n cap nd capd m V d w1 H.out.1 (by omega) HV.out.2.1 (by omega) (H.out.2.1.below H1.out) H.out.2.2.1 hnd (H.out.2.2.2.below H1.out)).mono ?_
    rintro e w2 ⟨rfl, hb2⟩
    have H2 := Lib.hid (H1.out.trans (hb2.mono H1.out.size))
    clear hb2
    cases hd : divV V d
    · have HD := Lib.hid hd
      clear hd
      go_wp2_with fail
      go_ret2
      exact .inl ⟨by rw [HD.out]; simp, rfl, H2.out⟩
    · have hdm : nd = m := by rw [← H.out.2.2.1]; exact divV_len hd HV.out.2.1
      subst hdm
      have HD := Lib.hid hd
      clear hd
      by_cases h0 : kind < 0
      · go_wp2_with fail
        go_ret2
        exact .inl ⟨by rw [decide_eq_false (p := 0 ≤ kind) (by omega)]; simp, rfl, H2.out⟩
      · by_cases h4 : 4 < kind
        · go_wp2_with fail
          go_ret2
          exact .inl ⟨by rw [decide_eq_false (p := kind ≤ 4) (by omega)]; simp, rfl, H2.out⟩
        · go_wp2_with fail
          have hcall : Calls Try.prog 63 #[.slice A n cap, .slice D nd capd, .int .i64 kind] w2 fun e w' => e = .returned (.bool (fairB V d n kind)) ∧ Below w2.heap.size w2 w' := by
            by_cases h3 : kind ≤ 2
            · exact sfair_low A n cap D nd capd kind V d w2 H.out.1 (by omega) H.out.2.2.1 (by omega) (by omega) (by rw [← H.out.1]; exact HV.out.2.2) (H.out.2.1.below H2.out) (H.out.2.2.2.below H2.out)
            · exact sfair_high A n cap D nd capd kind V d w2 H.out.1 (by omega) H.out.2.2.1 (by omega) (by omega) (by rw [← H.out.1]; exact HV.out.2.2) (H.out.2.1.below H2.out) (H.out.2.2.2.below H2.out)
          refine hcall.mono ?_
          rintro e w3 ⟨rfl, hb3⟩
          have H3 := Lib.hid (H2.out.trans (hb3.mono H2.out.size))
          clear hb3 hcall
          obtain ⟨b, hb⟩ : ∃ b, b = fairB V d n kind := ⟨_, rfl⟩
          rw [← hb]
          have HB := Lib.hid hb
          clear hb
          go_wp2_with fail
          go_ret2
          refine .inr ⟨by rw [HV.out.1, HD.out, decide_eq_true (show 0 ≤ kind by omega), decide_eq_true (show kind ≤ 4 by omega)]; rfl, ?_, H3.out⟩
          rw [H.out.1, ← HB.out]; rfl

/- Contracts: math/bits.Mul at small numbers, slices.Repeat of one number, nobody of package split. -/

set_option maxHeartbeats 1600000 in
theorem bmul64_any (m : Nat) (hm : m ≤ 7) (w : World) : Calls Try.prog 114 #[.int .u64 1, .int .u64 (m : Int)] w fun e w' => e = .returned (.tuple #[.int .u64 0, .int .u64 (m : Int)]) ∧ w = w' := by
  have h : m = 0 ∨ m = 1 ∨ m = 2 ∨ m = 3 ∨ m = 4 ∨ m = 5 ∨ m = 6 ∨ m = 7 := by omega
  rcases h with rfl | rfl | rfl | rfl | rfl | rfl | rfl | rfl
  all_goals
    go_enter Try.func114, Try.ntmps114
    go_wp2_with fail
    go_ret2
    exact ⟨rfl, rfl⟩

set_option maxHeartbeats 1600000 in
theorem bmul_any (m : Nat) (hm : m ≤ 7) (w : World) : Calls Try.prog 108 #[.int .u64 1, .int .u64 (m : Int)] w fun e w' => e = .returned (.tuple #[.int .u64 0, .int .u64 (m : Int)]) ∧ w = w' := by
  go_enter Try.func108, Try.ntmps108
  go_wp2_with fail
  refine (bmul64_any m hm w).mono ?_
  rintro e w' ⟨rfl, rfl⟩
  go_wp2_with fail
  go_ret2
  exact ⟨rfl, rfl⟩

/-- The first k are -1, the others 0. -/
def negs (m k : Nat) : List Int := List.replicate k (-1) ++ List.replicate (m - k) 0
theorem negs_all (m : Nat) : negs m m = List.replicate m (-1) := by unfold negs; rw [Nat.sub_self]; simp
theorem negs_length {m k : Nat} (h : k ≤ m) : (negs m k).length = m := by unfold negs; simp; omega
theorem negs_splice {m k j : Nat} (h : k + j ≤ m) : splice ((negs m k).map (Value.int .i64)) k ((List.replicate j (-1)).map (Value.int .i64)) = (negs m (k + j)).map (Value.int .i64) := by
  unfold splice negs
  apply List.ext_getElem?
  intro i
  simp only [List.map_append, List.map_replicate, List.length_replicate]
  by_cases h1 : i < k
  · rw [List.getElem?_append_left (by simp; omega), List.getElem?_take_of_lt h1, List.getElem?_append_left (by simp; omega), List.getElem?_append_left (by simp; omega)]
    simp [h1, show i < k + j by omega]
  · rw [List.getElem?_append_right (by simp; omega)]
    simp only [List.length_take, List.length_append, List.length_replicate, show min k (k + (m - k)) = k by omega]
    by_cases h2 : i < k + j
    · rw [List.getElem?_append_left (by simp; omega), List.getElem?_append_left (by simp; omega)]
      simp [h2, show i - k < j by omega]
    · rw [List.getElem?_append_right (by simp; omega), List.getElem?_drop, List.getElem?_append_right (by simp; omega), List.getElem?_append_right (by simp; omega)]
      simp only [List.length_replicate, List.getElem?_replicate]
      by_cases h3 : i - (k + j) < m - (k + j)
      · rw [if_pos h3, if_pos (by omega)]
      · rw [if_neg h3, if_neg (by omega)]

theorem size_int1 : (Try.prog.info? 3).map (·.size) = some 1 := by kernel_rfl

set_option maxRecDepth 100000 in
set_option maxHeartbeats 1600000 in
theorem repeat_any (m gx : Nat) (hm : 1 ≤ m ∧ m ≤ 7) (w : World) (hx : Blk w gx 3 (arr [-1])) :
    Calls Try.prog 96 #[.slice (some ⟨gx, 0, none⟩) 1 1, .int .i64 m] w fun e w' => ∃ g, e = .returned (.slice (some ⟨g, 0, none⟩) m m) ∧ Blk w' g 3 (arr (List.replicate m (-1))) ∧ w.heap.size ≤ g ∧ Below w.heap.size w w' := by
  have hmk := make_div m (by omega)
  have hgx := hx.lt
  have HX := Lib.hid hx
  clear hx
  go_enter Try.func96, Try.ntmps96
  go_wp2_with fail
  refine (bmul_any m hm.2 w).mono ?_
  rintro e w' ⟨rfl, rfl⟩
  have hB0 : Blk (w.alloc (.cells (arr (List.replicate m 0)) 3)) w.heap.size 3 ((negs m 0).map (Value.int .i64)).toArray := by
    have e : negs m 0 = List.replicate m 0 := by simp [negs]
    rw [e]; exact Blk.new _ _ _ rfl
  have HB0 := Lib.hid hB0
  clear hB0
  have hB1 : At (w.alloc (.cells (arr (List.replicate m 0)) 3)) (some ⟨gx, 0, none⟩) [.int .i64 (-1)] := (HX.out.alloc _).at_
  have hpos : 0 < [Value.int .i64 (-1)].length → (some (⟨w.heap.size, 0, none⟩ : Addr) = some ⟨w.heap.size, 0, none⟩ ∧ ∃ ad, some (⟨gx, 0, none⟩ : Addr) = some ad ∧ ∀ j v, [Value.int .i64 (-1)][j]? = some v → (w.alloc (.cells (arr (List.replicate m 0)) 3)).cell? (ad.add j) = some v) := fun _ => ⟨rfl, _, rfl, hB1.some2⟩
  have HPOS := Lib.hid (And.intro hpos (And.intro (show [Value.int .i64 (-1)].length = Nat.min 1 m from (Nat.min_eq_left hm.1).symm) (show 0 + [Value.int .i64 (-1)].length ≤ ((negs m 0).map (Value.int .i64)).length by rw [List.length_map, negs_length (Nat.zero_le _)]; show 0 + 1 ≤ m; omega)))
  have hone : ∀ v ∈ [Value.int .i64 (-1)], v.oneCell' = true := by simp [Value.oneCell']
  have HONE := Lib.hid hone
  have hb0 : Below w.heap.size w (w.alloc (.cells (arr (List.replicate m 0)) 3)) := (Below.refl _ _).alloc (Nat.le_refl _) _
  have HBL := Lib.hid hb0
  clear hB1 hpos hone hb0
  go_wp2_with (refine wpList_copy_splice (o := ⟨some 33, _, _, _, _, _⟩) rfl (.tmp 31) (.tmp 32) _ _ rfl 3 Try.underlying64 size_int1 (some ⟨w.heap.size, 0, none⟩) (some ⟨gx, 0, none⟩) m m 1 1 rfl rfl w.heap.size 0 ((negs m 0).map (Value.int .i64)) 3 HB0.out [.int .i64 (-1)] ?c1 ?c2 ?c3 HONE.out w.heap.size w ((Below.refl _ _).alloc (Nat.le_refl _) _) (Nat.le_refl _) ?_)
  case c1 => exact HPOS.out.2.1
  case c2 =>
    exact fun j v hj => by rw [HX.out.cell, ← Array.getElem?_toList]; exact hj
  case c3 => exact HPOS.out.2.2
  intro w1 hs1 hb1
  have hB1 : Blk w1 w.heap.size 3 (arr (negs m 1)) := by
    have h := hs1.out
    have e := negs_splice (m := m) (k := 0) (j := 1) (by omega)
    rw [show ((List.replicate 1 (-1)).map (Value.int .i64)) = [Value.int .i64 (-1)] from rfl] at e
    rw [e] at h
    exact h
  have H1 := Lib.hid (And.intro hB1 hb1)
  clear hs1 hB1 hb1
  go_wp2_with fail
  go_loopw [8] (fun nv wr => ∃ k : Nat, 1 ≤ k ∧ k ≤ m ∧ nv = .int .i64 k ∧ Blk wr w.heap.size 3 (arr (negs m k)) ∧ Below w.heap.size w wr) (fun nv _ => m - (intOf nv).toNat)
  case atStart => exact ⟨1, by omega, hm.1, rfl, H1.out.1, H1.out.2⟩
  case round =>
    obtain ⟨k, hk1, hk, rfl, hB, hbl⟩ := hrel
    have HR := Lib.hid (And.intro hB hbl)
    clear hB hbl
    by_cases hlt : k < m
    · have l1 : (k : Int) < (m : Int) := by omega
      have hne : ¬ m = k := by omega
      have l2 : (0 : Int) ≤ (k : Int) := by omega
      have l3 : (k : Int) ≤ (m : Int) := by omega
      obtain ⟨j, hj⟩ : ∃ j, j = min k (m - k) := ⟨_, rfl⟩
      have hj1 : k + j ≤ m ∧ 1 ≤ j ∧ j ≤ 7 := by omega
      have hlen : ((List.replicate j (-1)).map (Value.int .i64)).length = Nat.min k (m - k) := by rw [List.length_map, List.length_replicate, hj]
      have hfit : k + ((List.replicate j (-1)).map (Value.int .i64)).length ≤ ((negs m k).map (Value.int .i64)).length := by rw [List.length_map, List.length_replicate, List.length_map, negs_length hk]; exact hj1.1
      have hone : ∀ v ∈ (List.replicate j (-1)).map (Value.int .i64), v.oneCell' = true := ints_one _
      have hsrc : ∀ (i : Nat) (v : Value), ((List.replicate j (-1)).map (Value.int .i64))[i]? = some v → wr.drew.cell? ((⟨w.heap.size, 0, none⟩ : Addr).add i) = some v := by
        intro i v hv
        refine (Blk.at_ HR.out.1).some2 i v ?_
        rw [← hv]
        unfold arr negs
        have hi : i < j := by
          have := (List.getElem?_eq_some_iff.1 hv).1; simpa using this
        simp only [List.map_append, List.map_replicate]
        rw [List.getElem?_append_left (by simp; omega)]
        simp [hi, show i < k by omega]
      have ew : IntKind.i64.wrap ((k : Int) + (j : Int)) = (k : Int) + (j : Int) := IntWalk.i64_in _ (by omega)
      have HL := Lib.hid (And.intro hlen (And.intro hfit (And.intro hone (And.intro hsrc hj))))
      clear hlen hfit hone hsrc hj
      have HBL2 : Hid (Blk wr.drew w.heap.size 3 (arr (negs m k)) ∧ Below w.heap.size w wr.drew) := Lib.hid ⟨HR.out.1, HR.out.2.drew⟩
      go_wp2_with fail
      go_region_law ((refine step_copy_splice (o := ⟨some 45, _, _, _, _, _⟩) (by rfl) (.tmp 41) (.tmp 44) _ _ (by rfl) 3 Try.underlying64 size_int1 (some ⟨w.heap.size, k, none⟩) (some ⟨w.heap.size, 0, none⟩) (m - k) (m - k) k m (by simp [Act.eval, Act.put]) (by simp [Act.eval, Act.put]) w.heap.size k ((negs m k).map (Value.int .i64)) 3 HBL2.out.1 ((List.replicate j (-1)).map (Value.int .i64)) HL.out.1 (fun _ => ⟨rfl, _, rfl, HL.out.2.2.2.1⟩) HL.out.2.1 HL.out.2.2.1 w.heap.size w HBL2.out.2 (Nat.le_refl _) ?_; intro w2 hs2 hb2))
      all_goals
        have hB2 : Blk w2 w.heap.size 3 (arr (negs m (k + j))) := by
          have h := hs2.out
          rw [negs_splice hj1.1] at h
          exact h
        have H2 := Lib.hid (And.intro hB2 hb2)
        clear hs2 hB2 hb2
        go_roundw
        case rel =>
          (repeat apply Exists.intro)
          refine ⟨⟨k + j, by omega, hj1.1, ?e, H2.out.1, H2.out.2⟩, rfl⟩
          go_num
        case measure =>
          show m - ((k : Int) + (j : Int)).toNat < m - ((k : Int)).toNat
          omega
    · obtain rfl : k = m := by omega
      go_wp2_with fail
      go_ret
      exact ⟨w.heap.size, rfl, by rw [← negs_all]; exact HR.out.1, Nat.le_refl _, HR.out.2⟩

/- Contracts: nobody and Rounds of package split. -/

set_option maxHeartbeats 1600000 in
theorem snobody_any (A : Option Addr) (n cap m : Nat) (V : List (List Int)) (w : World) (hl : V.length = n) (hn : 1 ≤ n) (hn2 : n ≤ 1000) (hm : m = (rowV V 0).length) (hm7 : 1 ≤ m ∧ m ≤ 7) (h : Mat w A V) :
    Calls Try.prog 69 #[.slice A n cap] w fun e w' => ∃ g, e = .returned (.slice (some ⟨g, 0, none⟩) m m) ∧ Blk w' g 3 (arr (List.replicate m (-1))) ∧ w.heap.size ≤ g ∧ Below w.heap.size w w' := by
  have hb : ∀ o, Below w.heap.size w (w.alloc o) := fun o => (Below.refl _ _).alloc (Nat.le_refl _) _
  have H := Lib.hid (And.intro hl (And.intro hm (And.intro h hb)))
  clear hl hm h hb
  go_enter Try.func69, Try.ntmps69
  go_wp2_with fail
  refine (goods_any A n cap m V _ H.out.1 hn hn2 H.out.2.1 (by omega) (H.out.2.2.1.below (H.out.2.2.2 _))).mono ?_
  rintro e w' ⟨rfl, rfl⟩
  have hB : Blk (w.alloc (.cells #[.int .i64 (-1)] 3)) w.heap.size 3 (arr [-1]) := Blk.new _ _ _ rfl
  have HB := Lib.hid hB
  clear hB
  go_wp2_with fail
  refine (repeat_any m w.heap.size hm7 _ HB.out).mono ?_
  rintro e w2 ⟨g, rfl, hB2, hg, hb2⟩
  have hg2 : w.heap.size ≤ g := by simp at hg; omega
  have HF := Lib.hid (And.intro hB2 ((H.out.2.2.2 _).trans (hb2.mono (by simp))))
  clear hB2 hg hb2
  go_wp2_with fail
  go_ret
  exact ⟨g, rfl, HF.out.1, hg2, HF.out.2⟩

/-- What Rounds leaves. -/
def RndPost (V : List (List Int)) (w : World) (e : Ending) (w' : World) : Prop :=
  (valV V = false ∧ e = .returned (.tuple #[.slice none 0 0, .int .i64 2]) ∧ Below w.heap.size w w') ∨
  (valV V = true ∧ ∃ g, e = .returned (.tuple #[.slice (some ⟨g, 0, none⟩) (rowV V 0).length (rowV V 0).length, .int .i64 0]) ∧ Blk w' g 3 (arr (rndTo V V.length (rowV V 0).length (rowV V 0).length)) ∧ w.heap.size ≤ g ∧ Below w.heap.size w w')

set_option maxRecDepth 100000 in
set_option maxHeartbeats 3200000 in
theorem srounds_any (A : Option Addr) (n cap : Nat) (V : List (List Int)) (w : World) (hl : V.length = n) (hn : n ≤ 9223372036854775807) (hV : Mat w A V) :
    Calls Try.prog 37 #[.slice A n cap] w (RndPost V w) := by
  have H := Lib.hid (And.intro hl hV)
  clear hl hV
  go_enter Try.func37, Try.ntmps37
  go_wp2_with fail
  refine (svalid_any A n cap V _ H.out.1 hn H.out.2).mono ?_
  rintro e w1 ⟨rfl, hb1⟩
  have H1 := Lib.hid hb1
  clear hb1
  cases hv : valV V
  · have HV := Lib.hid hv
    clear hv
    go_wp2_with fail
    go_ret2
    exact .inl ⟨HV.out, rfl, H1.out⟩
  · have hv1 := valV_iff.1 hv
    have hn4 : 1 ≤ n ∧ n ≤ 4 := by rw [← H.out.1]; exact hv1.1
    obtain ⟨m, hm⟩ : ∃ m, m = (rowV V 0).length := ⟨_, rfl⟩
    have hm7 : 1 ≤ m ∧ m ≤ 7 := by rw [hm]; exact hv1.2.1
    have HV := Lib.hid (And.intro hv (And.intro hm (valV_rows hv hm)))
    clear hv hv1 hm
    go_wp2_with fail
    refine (snobody_any A n cap m V w1 H.out.1 hn4.1 (by omega) HV.out.2.1 hm7 (H.out.2.below H1.out)).mono ?_
    rintro e w2 ⟨g, rfl, hB2, hg, hb2⟩
    have hw2 : Below w.heap.size w w2 := H1.out.trans (hb2.mono H1.out.size)
    have hgw : w.heap.size ≤ g := Nat.le_trans H1.out.size hg
    have H2 := Lib.hid (And.intro hB2 hw2)
    clear hB2 hg hb2 hw2
    go_wp2_with fail
    go_loopw [19] (fun iv wr => ∃ t : Nat, t ≤ m ∧ iv = .int .i64 t ∧ Blk wr g 3 (arr (rndTo V n m t)) ∧ Below w.heap.size w wr) (fun iv _ => m - (intOf iv).toNat)
    case atStart => exact ⟨0, Nat.zero_le _, rfl, H2.out.1, H2.out.2⟩
    case round =>
      obtain ⟨t, ht, rfl, hB, hbl⟩ := hrel
      obtain ⟨wo, rfl⟩ : ∃ wo : World, wo = wr := ⟨_, rfl⟩
      have HR := Lib.hid (And.intro hB hbl)
      clear hB hbl
      by_cases hlt : t < m
      · obtain ⟨i, hi⟩ : ∃ i, i = t % n := ⟨_, rfl⟩
        have hin : i < n := by rw [hi]; exact Nat.mod_lt _ (by omega)
        have hmod : (t : Int) % (n : Int) = (i : Int) := by omega
        have hr1 : (rowV V i).length = m := (HV.out.2.2 i (by rw [H.out.1]; exact hin)).1
        obtain ⟨ad, rfl, _, hcc⟩ := (H.out.2.below HR.out.2).some_ (by rw [H.out.1]; omega)
        obtain ⟨A', c, h1, h2, h3, h4⟩ := hcc i _ (List.getElem?_eq_getElem (by rw [H.out.1]; exact hin))
        have er : rowV V i = V[i]'(by rw [H.out.1]; exact hin) := rowV_get (List.getElem?_eq_getElem (by rw [H.out.1]; exact hin))
        rw [← er] at h1 h2 h4
        rw [hr1] at h1 h2
        obtain ⟨rd, rfl, _, hcr⟩ := h4.some_ (by rw [hr1]; omega)
        have hrb := (HV.out.2.2 i (by rw [H.out.1]; exact hin)).2
        have hdl := rndTo_length V n m t
        have hbest := rnd_best V (n := n) (m := m) (t := t) hlt
        have hnext : rndTo V n m (t + 1) = (rndTo V n m t).set (bestTo (rowV V i) (rndTo V n m t) m).toNat (i : Int) := by rw [rndTo, hi]
        rw [← hi] at hbest
        have hbd := fun k => bestTo_bd (rowV V i) (rndTo V n m t) k
        have HI := Lib.hid (And.intro hr1 (And.intro hrb (And.intro hdl (And.intro hbest (And.intro hnext (And.intro hcr (And.intro hbd h1)))))))
        have l1 : (t : Int) < (m : Int) := by omega
        have l2 : (i : Int) < (n : Int) := by omega
        have l3 : (0 : Int) ≤ (i : Int) := by omega
        clear hr1 hrb hdl hbest hnext hcc h4 er hcr h1 hbd hi
        generalize rndTo V n m t = d at HR HI
        generalize rowV V i = row at HI
        go_wp2_with fail
        simp only [hmod]
        clear hmod
        go_loopw [8, 28] (fun bv jv wr => ∃ k : Nat, k ≤ m ∧ jv = .int .i64 k ∧ bv = .int .i64 (bestTo row d k) ∧ Below wo.heap.size wo wr) (fun _ jv _ => m - (intOf jv).toNat)
        case atStart => exact ⟨0, Nat.zero_le _, rfl, rfl, Below.refl _ _⟩
        case round =>
          obtain ⟨k, hk, rfl, rfl, hbl⟩ := hrel
          have HB := Lib.hid hbl
          clear hbl
          obtain ⟨hr1, hrb, hdl, hbest, hnext, hcr, hbd, h1⟩ := HI.out
          have hD : Blk wr g 3 (arr d) := HR.out.1.below HB.out HR.out.1.lt
          by_cases hltk : k < m
          · obtain ⟨y, hy⟩ : ∃ y, d[k]? = some y := ⟨_, List.getElem?_eq_getElem (by omega)⟩
            obtain ⟨x, hx⟩ : ∃ x, row[k]? = some x := ⟨_, List.getElem?_eq_getElem (by omega)⟩
            have c1 : wr.cell? ⟨g, k, none⟩ = some (.int .i64 y) := by rw [hD.cell, arr_get, hy]; rfl
            have c2 := (HB.out.cell (lt_of_cell h1)).trans h1
            have c3 := (HB.out.cell (lt_of_cell (hcr k x hx))).trans (hcr k x hx)
            have hyd : d.getD k 0 = y := by rw [List.getD_eq_getElem?_getD, hy]; rfl
            have hxd : row.getD k 0 = x := by rw [List.getD_eq_getElem?_getD, hx]; rfl
            have hN : bestTo row d (k + 1) = if y < 0 ∧ (bestTo row d k < 0 ∨ row.getD (bestTo row d k).toNat 0 < x) then (k : Int) else bestTo row d k := by rw [bestTo, hyd, hxd]
            have hbk := hbd k
            have hcb : 0 ≤ bestTo row d k → wr.cell? (rd.add (bestTo row d k).toNat) = some (.int .i64 (row.getD (bestTo row d k).toNat 0)) := by
              intro h0
              have hg : row[(bestTo row d k).toNat]? = some (row.getD (bestTo row d k).toNat 0) := by
                rw [List.getD_eq_getElem?_getD, List.getElem?_eq_getElem (by omega)]; rfl
              exact (HB.out.cell (lt_of_cell (hcr _ _ hg))).trans (hcr _ _ hg)
            have l4 : (k : Int) < (m : Int) := by omega
            have l5 : (0 : Int) ≤ (k : Int) := by omega
            have HN := Lib.hid hN
            clear hr1 hrb hdl hbest hnext hcr hbd h1 hD hy hx hyd hxd hN
            generalize bestTo row d k = b at *
            by_cases hy0 : y < 0
            · have t1 : decide (y < 0) = true := decide_eq_true hy0
              by_cases hb0 : b < 0
              · have t2 : decide (b < 0) = true := decide_eq_true hb0
                have HE : Hid (bestTo row d (k + 1) = (k : Int)) := Lib.hid (by rw [HN.out, if_pos ⟨hy0, .inl hb0⟩])
                clear hcb hy0 hb0
                go_wp2_with fail
                go_quiet (fail)
                go_wp2_with fail
                go_roundw
                case rel => exact ⟨k + 1, by omega, by go_num, by rw [HE.out], below_drewN HB.out _⟩
                case measure => simp [intOf]; omega
              · have t2 : decide (b < 0) = false := decide_eq_false hb0
                obtain ⟨bn, rfl⟩ : ∃ bn : Nat, b = (bn : Int) := ⟨b.toNat, by omega⟩
                rw [Int.toNat_natCast] at HN
                have c4 := hcb (by omega)
                rw [Int.toNat_natCast] at c4
                have l6 : (bn : Int) < (m : Int) := by omega
                have l7 : (0 : Int) ≤ (bn : Int) := by omega
                generalize row.getD bn 0 = z at HN c4
                by_cases hz : z < x
                · have HE : Hid (bestTo row d (k + 1) = (k : Int)) := Lib.hid (by rw [HN.out, if_pos ⟨hy0, .inr hz⟩])
                  have t3 : decide (z < x) = true := decide_eq_true hz
                  clear hcb hy0 hb0
                  go_wp2_with fail
                  go_quiet (fail)
                  go_wp2_with fail
                  go_roundw
                  case rel => exact ⟨k + 1, by omega, by go_num, by rw [HE.out], below_drewN HB.out _⟩
                  case measure => simp [intOf]; omega
                · have HE : Hid (bestTo row d (k + 1) = (bn : Int)) := Lib.hid (by rw [HN.out, if_neg (by intro h; rcases h.2 with h | h <;> omega)])
                  have t3 : decide (z < x) = false := decide_eq_false hz
                  clear hcb hy0 hb0
                  go_wp2_with fail
                  go_quiet (fail)
                  go_wp2_with fail
                  go_roundw
                  case rel => exact ⟨k + 1, by omega, by go_num, by rw [HE.out], below_drewN HB.out _⟩
                  case measure => simp [intOf]; omega
            · have t1 : decide (y < 0) = false := decide_eq_false hy0
              have HE : Hid (bestTo row d (k + 1) = b) := Lib.hid (by rw [HN.out, if_neg (fun h => hy0 h.1)])
              clear hcb hy0
              go_wp2_with fail
              go_quiet (fail)
              go_wp2_with fail
              go_roundw
              case rel => exact ⟨k + 1, by omega, by go_num, by rw [HE.out], below_drewN HB.out _⟩
              case measure => simp [intOf]; omega
          · obtain rfl : k = m := by omega
            have hbk := (hbd k).2
            obtain ⟨bn, hbn⟩ : ∃ bn : Nat, bestTo row d k = (bn : Int) := ⟨(bestTo row d k).toNat, by omega⟩
            rw [hbn] at hbk hnext ⊢
            rw [Int.toNat_natCast] at hnext
            have c1 : wr.cell? ⟨g, bn, none⟩ = some (.int .i64 (d.getD bn 0)) := by
              rw [hD.cell, arr_get, List.getD_eq_getElem?_getD, List.getElem?_eq_getElem (by omega)]; rfl
            have f1 := hD.frozen bn
            have hD2 := hD.set_ bn (.int .i64 (i : Int))
            rw [arr_set, ← hnext] at hD2
            have l6 : (bn : Int) < (k : Int) := by omega
            have l7 : (0 : Int) ≤ (bn : Int) := by omega
            have HD := Lib.hid hD2
            generalize d.getD bn 0 = old at c1
            clear hr1 hrb hdl hbest hnext hcr hbd h1 hD hD2 hbn
            go_wp2_with fail
            go_roundw
            case rel => exact ⟨t + 1, by omega, by go_num, HD.out, (HR.out.2.trans (HB.out.mono HR.out.2.size)).setCell hgw _⟩
            case measure => simp [intOf]; omega
      · obtain rfl : t = m := by omega
        go_wp2_with fail
        go_ret2
        refine .inr ⟨HV.out.1, g, ?_, ?_, hgw, HR.out.2⟩
        · rw [← HV.out.2.1]; rfl
        · rw [H.out.1, ← HV.out.2.1]; exact HR.out.1

/- Cycles of envy: plain Lean. -/

/-- The first person whom nobody envies. -/
def calmO (V : List (List Int)) (d : List Int) (n : Nat) : Option Nat := (List.range n).find? fun j => (List.range n).all fun i => !envB V d i j
/-- Each envies the next one, the last one the first. -/
def isC (V : List (List Int)) (d : List Int) (l : List Nat) : Bool := (List.range l.length).all fun x => envB V d (l.getD x 0) (l.getD ((x + 1) % l.length) 0)
/-- One person more. -/
def stepL (n : Nat) (l : List Nat) : List (List Nat) := ((List.range n).filter fun j => !l.contains j).map fun j => l ++ [j]
/-- All slices of k different numbers below n, in order. -/
def perms (n : Nat) : Nat → List (List Nat)
  | 0 => [[]]
  | k + 1 => (perms n k).flatMap (stepL n)
def ext (n : Nat) : Nat → List Nat → List (List Nat)
  | 0, c => [c]
  | r + 1, c => (stepL n c).flatMap (ext n r)
theorem ext_step (n r : Nat) : ∀ c, (ext n r c).flatMap (stepL n) = ext n (r + 1) c := by
  induction r with
  | zero => intro c; simp [ext]
  | succ r ih =>
    intro c
    show ((stepL n c).flatMap (ext n r)).flatMap (stepL n) = (stepL n c).flatMap (ext n (r + 1))
    rw [List.flatMap_assoc]
    congr 1
    funext l
    exact ih l
theorem perms_ext (n k : Nat) : perms n k = ext n k [] := by
  induction k with
  | zero => rfl
  | succ k ih => rw [perms, ih, ext_step]
/-- The first way to go on. -/
def growS (V : List (List Int)) (d : List Int) (n : Nat) : Nat → List Nat → Option (List Nat)
  | 0, c => if envB V d (c.getLastD 0) (c.headD 0) then some c else none
  | r + 1, c => (List.range n).findSome? fun j => if !c.contains j && envB V d (c.getLastD 0) j then growS V d n r (c ++ [j]) else none

theorem ext_prefix (n r : Nat) : ∀ (c l : List Nat), l ∈ ext n r c → ∃ t, l = c ++ t := by
  induction r with
  | zero => intro c l h; simp [ext] at h; exact ⟨[], by simp [h]⟩
  | succ r ih =>
    intro c l h
    simp only [ext, List.mem_flatMap] at h
    obtain ⟨c', hc', hl⟩ := h
    obtain ⟨j, _, rfl⟩ := List.mem_map.1 hc'
    obtain ⟨t, ht⟩ := ih _ _ hl
    exact ⟨j :: t, by rw [ht]; simp⟩
theorem findSome_filter {α β : Type} (L : List α) (p q : α → Bool) (f g : α → Option β) (h : ∀ j, p j = true → f j = if q j then g j else none) : (L.filter p).findSome? f = L.findSome? fun j => if p j && q j then g j else none := by
  induction L with
  | nil => rfl
  | cons x L ih =>
    by_cases hp : p x = true
    · rw [List.filter_cons_of_pos hp, List.findSome?_cons, List.findSome?_cons, ih, h x hp, hp, Bool.true_and]
    · have hp' : p x = false := by simpa using hp
      rw [List.filter_cons_of_neg hp, List.findSome?_cons, ih, hp', Bool.false_and]
      rfl

/-- Each of c envies the next one. -/
def pathC (V : List (List Int)) (d : List Int) (c : List Nat) : Prop := ∀ x, x + 1 < c.length → envB V d (c.getD x 0) (c.getD (x + 1) 0) = true
theorem last_getD (c : List Nat) (h : c ≠ []) : c.getLastD 0 = c.getD (c.length - 1) 0 := by
  have hl : 0 < c.length := List.length_pos_iff.2 h
  rw [List.getLastD_eq_getLast?, List.getLast?_eq_getElem?, List.getD_eq_getElem?_getD]
theorem head_getD (c : List Nat) : c.headD 0 = c.getD 0 0 := by cases c <;> rfl
theorem isC_iff {V : List (List Int)} {d : List Int} {l : List Nat} : isC V d l = true ↔ ∀ x, x < l.length → envB V d (l.getD x 0) (l.getD ((x + 1) % l.length) 0) = true := by
  simp only [isC, List.all_eq_true, List.mem_range]
theorem isC_path {V : List (List Int)} {d : List Int} {c : List Nat} (hc : c ≠ []) (hp : pathC V d c) : isC V d c = envB V d (c.getLastD 0) (c.headD 0) := by
  have hl : 0 < c.length := List.length_pos_iff.2 hc
  rw [Bool.eq_iff_iff, isC_iff, last_getD c hc, head_getD]
  constructor
  · intro h
    have := h (c.length - 1) (by omega)
    rwa [show c.length - 1 + 1 = c.length by omega, Nat.mod_self] at this
  · intro h x hx
    by_cases e : x + 1 < c.length
    · rw [Nat.mod_eq_of_lt e]; exact hp x e
    · obtain rfl : x = c.length - 1 := by omega
      rw [show c.length - 1 + 1 = c.length by omega, Nat.mod_self]; exact h
theorem getD_app {c t : List Nat} {x : Nat} (h : x < c.length) : (c ++ t).getD x 0 = c.getD x 0 := by
  rw [List.getD_eq_getElem?_getD, List.getD_eq_getElem?_getD, List.getElem?_append_left h]
theorem find_ext (V : List (List Int)) (d : List Int) (n r : Nat) : ∀ c, c ≠ [] → pathC V d c → (ext n r c).find? (isC V d) = growS V d n r c := by
  induction r with
  | zero =>
    intro c hc hp
    simp only [ext, growS, List.find?_cons, List.find?_nil, isC_path hc hp]
    cases envB V d (c.getLastD 0) (c.headD 0) <;> rfl
  | succ r ih =>
    intro c hc hp
    have hl : 0 < c.length := List.length_pos_iff.2 hc
    simp only [ext, growS]
    rw [List.find?_flatMap, stepL, List.findSome?_map]
    refine findSome_filter _ _ _ _ _ fun j _ => ?_
    show (ext n r (c ++ [j])).find? (isC V d) = _
    have hlast : (c ++ [j]).getD (c.length - 1) 0 = c.getLastD 0 := by rw [getD_app (by omega), last_getD c hc]
    have hnext : (c ++ [j]).getD c.length 0 = j := by rw [List.getD_eq_getElem?_getD]; simp
    cases he : envB V d (c.getLastD 0) j
    · rw [if_neg (by simp), List.find?_eq_none]
      intro l hl' hcyc
      obtain ⟨t, rfl⟩ := ext_prefix _ _ _ _ hl'
      have := isC_iff.1 hcyc (c.length - 1) (by simp; omega)
      have e1 : (c ++ [j] ++ t).getD (c.length - 1) 0 = c.getLastD 0 := by rw [getD_app (c := c ++ [j]) (by simp only [List.length_append, List.length_singleton]; omega), hlast]
      have e2 : (c ++ [j] ++ t).getD c.length 0 = j := by rw [getD_app (c := c ++ [j]) (by simp only [List.length_append, List.length_singleton]; omega), hnext]
      rw [show c.length - 1 + 1 = c.length by omega, Nat.mod_eq_of_lt (by simp only [List.length_append, List.length_singleton]; omega), e1, e2, he] at this
      cases this
    · rw [if_pos rfl]
      refine ih _ (by simp) fun x hx => ?_
      rw [List.length_append, List.length_singleton] at hx
      by_cases e : x + 1 < c.length
      · rw [getD_app (by omega), getD_app e]; exact hp x e
      · obtain rfl : x = c.length - 1 := by omega
        rw [show c.length - 1 + 1 = c.length by omega, hlast, hnext]; exact he

/-- The first shortest cycle, as the reference finds it. -/
def cycO (V : List (List Int)) (d : List Int) (n : Nat) : Option (List Nat) := (List.range' 2 (n - 1)).findSome? fun k => (perms n k).find? (isC V d)
theorem perms_grow (V : List (List Int)) (d : List Int) (n k : Nat) : (perms n (k + 1)).find? (isC V d) = (List.range n).findSome? fun i => growS V d n k [i] := by
  rw [perms_ext]
  simp only [ext, stepL]
  rw [List.find?_flatMap, List.findSome?_map]
  have e : (List.range n).filter (fun j => !([] : List Nat).contains j) = List.range n := by simp
  rw [e]
  congr 1
  funext i
  exact find_ext V d n k [i] (by simp) (fun x hx => by simp at hx)
/-- The lists of different numbers. -/
theorem mem_perms {n k : Nat} {l : List Nat} (h : l ∈ perms n k) : l.length = k ∧ l.Nodup ∧ ∀ x ∈ l, x < n := by
  induction k generalizing l with
  | zero => simp [perms] at h; subst h; simp
  | succ k ih =>
    simp only [perms, List.mem_flatMap] at h
    obtain ⟨l', hl', h⟩ := h
    obtain ⟨j, hj, rfl⟩ := List.mem_map.1 h
    obtain ⟨h1, h2, h3⟩ := ih hl'
    rw [List.mem_filter] at hj
    have hjn := List.mem_range.1 hj.1
    have hjl : j ∉ l' := by simpa using hj.2
    refine ⟨by simp [h1], ?_, ?_⟩
    · rw [List.nodup_append]
      refine ⟨h2, by simp, ?_⟩
      intro a ha b hb
      simp at hb
      subst hb
      rintro rfl
      exact hjl ha
    · intro x hx
      rcases List.mem_append.1 hx with h | h
      · exact h3 x h
      · simp at h; omega
theorem envB_self (V : List (List Int)) (d : List Int) (i : Nat) : envB V d i i = false := by simp [envB]

/-- If everyone is envied by someone, there is a cycle. -/
def chkC (n a b c e : Nat) : Bool := !(decide (2 ≤ n) && decide (a < n) && decide (b < n) && (decide (n ≤ 2) || decide (c < n)) && (decide (n ≤ 3) || decide (e < n)) && decide (a ≠ 0) && decide (b ≠ 1) && decide (c ≠ 2) && decide (e ≠ 3)) ||
  (List.range' 2 (n - 1)).any fun k => (perms n k).any fun l => (List.range l.length).all fun x => [a, b, c, e].getD (l.getD ((x + 1) % l.length) 0) 0 == l.getD x 0
theorem cyc_decide : ∀ (n : Fin 5) (a b c e : Fin 4), chkC n.val a.val b.val c.val e.val = true := by decide +kernel
theorem cyc_exists {V : List (List Int)} {d : List Int} {n : Nat} (hn : 1 ≤ n ∧ n ≤ 4) (h : calmO V d n = none) : ∃ k l, 2 ≤ k ∧ k ≤ n ∧ cycO V d n = some l ∧ l ∈ perms n k ∧ isC V d l = true := by
  have hen : ∀ j, j < n → ∃ i, i < n ∧ envB V d i j = true := by
    intro j hj
    unfold calmO at h
    rw [List.find?_eq_none] at h
    have := h j (List.mem_range.2 hj)
    simp only [List.all_eq_true, Bool.not_eq_true', List.mem_range] at this
    apply Classical.byContradiction
    intro hno
    apply this
    intro i hi
    cases he : envB V d i j
    · rfl
    · exact absurd ⟨i, hi, he⟩ hno
  have hsome : ∃ k l, 2 ≤ k ∧ k ≤ n ∧ l ∈ perms n k ∧ isC V d l = true := by
    have pick : ∀ j, ∃ i : Fin 4, (j < n → i.val < n ∧ envB V d i.val j = true) ∧ (i.val ≠ j) := by
      intro j
      by_cases hj : j < n
      · obtain ⟨i, hi, he⟩ := hen j hj
        refine ⟨⟨i, by omega⟩, fun _ => ⟨hi, he⟩, ?_⟩
        intro e0
        have e0 : i = j := e0
        rw [e0, envB_self] at he; cases he
      · by_cases e : j = 0
        · exact ⟨1, fun h => absurd h hj, by subst e; decide⟩
        · exact ⟨0, fun h => absurd h hj, by intro h0; exact e h0.symm⟩
    obtain ⟨a, ha, ha'⟩ := pick 0
    obtain ⟨b, hb, hb'⟩ := pick 1
    obtain ⟨c, hc, hc'⟩ := pick 2
    obtain ⟨e, he, he'⟩ := pick 3
    have hn2 : 2 ≤ n := by
      apply Classical.byContradiction
      intro hlt
      have := (ha (by omega)).1
      omega
    have hd := cyc_decide ⟨n, by omega⟩ a b c e
    have hpre : (decide (2 ≤ n) && decide (a.val < n) && decide (b.val < n) && (decide (n ≤ 2) || decide (c.val < n)) && (decide (n ≤ 3) || decide (e.val < n)) && decide (a.val ≠ 0) && decide (b.val ≠ 1) && decide (c.val ≠ 2) && decide (e.val ≠ 3)) = true := by
      simp only [Bool.and_eq_true, Bool.or_eq_true, decide_eq_true_eq]
      refine ⟨⟨⟨⟨⟨⟨⟨⟨hn2, (ha (by omega)).1⟩, (hb (by omega)).1⟩, ?_⟩, ?_⟩, ha'⟩, hb'⟩, hc'⟩, he'⟩
      · by_cases h2 : n ≤ 2
        · exact .inl h2
        · exact .inr (hc (by omega)).1
      · by_cases h3 : n ≤ 3
        · exact .inl h3
        · exact .inr (he (by omega)).1
    unfold chkC at hd
    rw [hpre] at hd
    simp only [Bool.not_true, Bool.false_or] at hd
    rw [List.any_eq_true] at hd
    obtain ⟨k, hk, hd⟩ := hd
    rw [List.any_eq_true] at hd
    obtain ⟨l, hl, hd⟩ := hd
    have hk' := List.mem_range'_1.1 hk
    have hm := mem_perms hl
    refine ⟨k, l, hk'.1, by have h5 : k < 2 + (n - 1) := hk'.2; omega, hl, ?_⟩
    rw [isC_iff]
    intro x hx
    rw [List.all_eq_true] at hd
    have h1 := hd x (List.mem_range.2 hx)
    rw [beq_iff_eq] at h1
    have hlt : (x + 1) % l.length < l.length := Nat.mod_lt _ (by omega)
    have hj : l.getD ((x + 1) % l.length) 0 < n := by
      rw [List.getD_eq_getElem?_getD, List.getElem?_eq_getElem hlt]; exact hm.2.2 _ (List.getElem_mem hlt)
    generalize l.getD ((x + 1) % l.length) 0 = j at h1 hj ⊢
    rw [← h1]
    have hj4 : j = 0 ∨ j = 1 ∨ j = 2 ∨ j = 3 := by omega
    rcases hj4 with rfl | rfl | rfl | rfl
    · exact (ha hj).2
    · exact (hb hj).2
    · exact (hc hj).2
    · exact (he hj).2
  obtain ⟨k, l, h2, hkn, hl, hcy⟩ := hsome
  cases hc : cycO V d n with
  | none =>
    unfold cycO at hc
    rw [List.findSome?_eq_none_iff] at hc
    have := hc k (List.mem_range'_1.2 ⟨h2, by omega⟩)
    rw [List.find?_eq_none] at this
    exact absurd hcy (this l hl)
  | some l' =>
    have hc' := hc
    unfold cycO at hc'
    obtain ⟨k', hk', hf⟩ := List.exists_of_findSome?_eq_some hc'
    have hk2 := List.mem_range'_1.1 hk'
    exact ⟨k', l', hk2.1, by omega, rfl, List.mem_of_find?_eq_some hf, List.find?_some hf⟩

/- The division by cycles of envy: plain Lean. -/

/-- Who stands after j in l. -/
def sucL (l : List Nat) (j : Nat) : Nat := if j ∈ l then l.getD ((l.idxOf j + 1) % l.length) 0 else j
/-- Whom a good of p goes to. -/
def rotP (l : List Nat) (p : Int) : Int := if 0 ≤ p ∧ p.toNat ∈ l then ((l.getD ((l.idxOf p.toNat + l.length - 1) % l.length) 0 : Nat) : Int) else p
def rotD (l : List Nat) (d : List Int) : List Int := d.map (rotP l)
theorem rotD_length (l : List Nat) (d : List Int) : (rotD l d).length = d.length := by simp [rotD]
theorem rotD_getD {l : List Nat} {d : List Int} {g : Nat} (h : g < d.length) : (rotD l d).getD g 0 = rotP l (d.getD g 0) := by
  simp [rotD, List.getD_eq_getElem?_getD, h]
theorem getD_memN {l : List Nat} {k : Nat} (h : k < l.length) : l.getD k 0 ∈ l := by
  rw [List.getD_eq_getElem?_getD, List.getElem?_eq_getElem h]; exact List.getElem_mem h
theorem idx_getD {l : List Nat} (hn : l.Nodup) {k : Nat} (h : k < l.length) : l.idxOf (l.getD k 0) = k := by
  rw [List.getD_eq_getElem?_getD, List.getElem?_eq_getElem h]
  exact hn.idxOf_getElem k h
theorem getD_idx {l : List Nat} {j : Nat} (h : j ∈ l) : l.getD (l.idxOf j) 0 = j := by
  have hlt := List.idxOf_lt_length_of_mem h
  rw [List.getD_eq_getElem?_getD, List.getElem?_eq_getElem hlt]
  exact List.getElem_idxOf hlt
theorem mod_back {k len : Nat} (h : k < len) : ((k + 1) % len + len - 1) % len = k := by
  by_cases e : k + 1 = len
  · rw [e, Nat.mod_self, Nat.zero_add, Nat.mod_eq_of_lt (by omega)]; omega
  · rw [Nat.mod_eq_of_lt (by omega : k + 1 < len), show k + 1 + len - 1 = k + len by omega, Nat.add_mod_right, Nat.mod_eq_of_lt h]
theorem mod_fore {q len : Nat} (h : q < len) : ((q + len - 1) % len + 1) % len = q := by
  by_cases e : q = 0
  · subst e; rw [Nat.zero_add, Nat.mod_eq_of_lt (by omega : len - 1 < len), show len - 1 + 1 = len by omega, Nat.mod_self]
  · rw [show q + len - 1 = q - 1 + len by omega, Nat.add_mod_right, Nat.mod_eq_of_lt (by omega : q - 1 < len), show q - 1 + 1 = q by omega, Nat.mod_eq_of_lt h]
theorem rotP_iff {l : List Nat} (hn : l.Nodup) (p : Int) (j : Nat) : rotP l p = (j : Int) ↔ p = (sucL l j : Int) := by
  by_cases hl : l.length = 0
  · have e : l = [] := List.eq_nil_of_length_eq_zero hl
    subst e
    simp [rotP, sucL]
  have hpos : 0 < l.length := by omega
  constructor
  · intro h
    unfold rotP at h
    split at h
    · rename_i hc
      have hq := List.idxOf_lt_length_of_mem hc.2
      have hk : (l.idxOf p.toNat + l.length - 1) % l.length < l.length := Nat.mod_lt _ hpos
      have hj : l.getD ((l.idxOf p.toNat + l.length - 1) % l.length) 0 = j := by omega
      have hm : j ∈ l := by rw [← hj]; exact getD_memN hk
      unfold sucL
      rw [if_pos hm, ← hj, idx_getD hn hk, mod_fore hq, getD_idx hc.2]
      omega
    · rename_i hc
      subst h
      have hm : j ∉ l := fun hm => hc ⟨by omega, by simpa using hm⟩
      unfold sucL
      rw [if_neg hm]
  · intro h
    subst h
    unfold sucL
    by_cases hm : j ∈ l
    · rw [if_pos hm]
      have hk := List.idxOf_lt_length_of_mem hm
      have hk1 : (l.idxOf j + 1) % l.length < l.length := Nat.mod_lt _ hpos
      unfold rotP
      rw [Int.toNat_natCast, if_pos ⟨by omega, getD_memN hk1⟩, idx_getD hn hk1, mod_back hk, getD_idx hm]
    · rw [if_neg hm]
      unfold rotP
      rw [Int.toNat_natCast, if_neg (fun h => hm h.2)]
theorem worTo_rot {row : List Int} {d : List Int} {l : List Nat} (hn : l.Nodup) (j g : Nat) (hg : g ≤ d.length) : worTo row (rotD l d) (j : Int) g = worTo row d (sucL l j : Int) g := by
  induction g with
  | zero => rfl
  | succ g ih =>
    simp only [worTo]
    rw [ih (by omega), rotD_getD (by omega)]
    congr 1
    by_cases e : d.getD g 0 = (sucL l j : Int)
    · rw [if_pos e, if_pos ((rotP_iff hn _ _).2 e)]
    · rw [if_neg e, if_neg (fun h => e ((rotP_iff hn _ _).1 h))]
theorem wor_rot {V : List (List Int)} {d : List Int} {l : List Nat} (hn : l.Nodup) (i j : Nat) : wor V (rotD l d) i (j : Int) = wor V d i (sucL l j : Int) := by
  unfold wor; rw [rotD_length]; exact worTo_rot hn j _ (Nat.le_refl _)
theorem sucL_more {V : List (List Int)} {d : List Int} {l : List Nat} (_hn : l.Nodup) (hc : isC V d l = true) (i : Nat) : wor V d i (i : Int) ≤ wor V d i (sucL l i : Int) ∧ (i ∈ l → wor V d i (i : Int) < wor V d i (sucL l i : Int)) := by
  by_cases hm : i ∈ l
  · have hk := List.idxOf_lt_length_of_mem hm
    have h := isC_iff.1 hc _ hk
    rw [getD_idx hm] at h
    have e : sucL l i = l.getD ((l.idxOf i + 1) % l.length) 0 := by unfold sucL; rw [if_pos hm]
    rw [← e] at h
    have := of_decide_eq_true h
    exact ⟨by omega, fun _ => this⟩
  · have e : sucL l i = i := by unfold sucL; rw [if_neg hm]
    rw [e]
    exact ⟨Int.le_refl _, fun h => absurd h hm⟩

/-- What all together have. -/
def ownSum (V : List (List Int)) (d : List Int) (n : Nat) : Int := sumN (fun i => wor V d i (i : Int)) n
theorem sumN_mono {f g : Nat → Int} (n : Nat) (h : ∀ i, i < n → f i ≤ g i) : sumN f n ≤ sumN g n := by
  induction n with
  | zero => exact Int.le_refl _
  | succ n ih =>
    have h1 := ih fun i hi => h i (by omega)
    have h2 := h n (by omega)
    simp only [sumN]; omega
theorem sumN_lt {f g : Nat → Int} {n i : Nat} (h : ∀ i, i < n → f i ≤ g i) (hi : i < n) (hlt : f i < g i) : sumN f n < sumN g n := by
  induction n with
  | zero => omega
  | succ n ih =>
    have h2 := h n (by omega)
    simp only [sumN]
    by_cases e : i = n
    · subst e
      have := sumN_mono (f := f) (g := g) i fun k hk => h k (by omega)
      omega
    · have := ih (fun k hk => h k (by omega)) (by omega)
      omega
def potN (V : List (List Int)) (d : List Int) (n : Nat) : Nat := (2900 - ownSum V d n).toNat
theorem potN_rot {V : List (List Int)} {d : List Int} {n m : Nat} {l : List Nat} (hn4 : n ≤ 4) (hm : m ≤ 7) (hd : d.length = m) (hr : ∀ i, i < n → ∀ x ∈ rowV V i, 0 ≤ x ∧ x ≤ 100) (hn : l.Nodup) (hln : ∀ x ∈ l, x < n) (hl : l ≠ []) (hc : isC V d l = true) : potN V (rotD l d) n < potN V d n := by
  have h1 : ownSum V d n < ownSum V (rotD l d) n := by
    obtain ⟨i, hi⟩ := List.exists_mem_of_ne_nil l hl
    refine sumN_lt (i := i) (fun k _ => ?_) (hln i hi) ?_
    · rw [wor_rot hn]; exact (sucL_more hn hc k).1
    · rw [wor_rot hn]; exact (sucL_more hn hc i).2 hi
  have h2 : ownSum V (rotD l d) n ≤ 700 * n := by
    refine sumN_le n fun i hi => ?_
    have := (worTo_bd (hr i hi) (rotD l d) (i : Int) (rotD l d).length).2
    unfold wor
    rw [rotD_length] at this ⊢
    omega
  unfold potN
  omega

/-- Cycles are resolved until someone is envied by nobody. -/
def settle (V : List (List Int)) (n : Nat) : Nat → List Int → List Int
  | 0, d => d
  | f + 1, d => if (calmO V d n).isSome then d else settle V n f (rotD ((cycO V d n).getD []) d)
theorem settle_calm {V : List (List Int)} {n f j : Nat} {d : List Int} (h : calmO V d n = some j) : settle V n f d = d := by
  cases f with
  | zero => rfl
  | succ f => simp [settle, h]
theorem settle_rot {V : List (List Int)} {n f : Nat} {d : List Int} {l : List Nat} (h : calmO V d n = none) (hl : cycO V d n = some l) : settle V n (f + 1) d = settle V n f (rotD l d) := by
  simp [settle, h, hl]
/-- The division after some goods. -/
def cycTo (V : List (List Int)) (n m : Nat) : Nat → List Int
  | 0 => List.replicate m (-1)
  | g + 1 => (settle V n 3000 (cycTo V n m g)).set g (((calmO V (settle V n 3000 (cycTo V n m g)) n).getD 0 : Nat) : Int)

/-- Entries are people, or nobody yet. -/
def partD (n m : Nat) (d : List Int) : Prop := d.length = m ∧ ∀ x ∈ d, x = -1 ∨ (0 ≤ x ∧ x < (n : Int))
theorem partD_rot {n m : Nat} {d : List Int} {l : List Nat} (h : partD n m d) (hln : ∀ x ∈ l, x < n) : partD n m (rotD l d) := by
  refine ⟨by rw [rotD_length]; exact h.1, fun x hx => ?_⟩
  obtain ⟨p, hp, rfl⟩ := List.mem_map.1 hx
  unfold rotP
  split
  · rename_i hc
    have hpos : 0 < l.length := List.length_pos_of_mem hc.2
    have := hln _ (getD_memN (Nat.mod_lt (l.idxOf p.toNat + l.length - 1) hpos))
    exact .inr ⟨by omega, by omega⟩
  · exact h.2 p hp
theorem partD_set {n m g j : Nat} {d : List Int} (h : partD n m d) (hj : j < n) : partD n m (d.set g (j : Int)) := by
  refine ⟨by rw [List.length_set]; exact h.1, fun x hx => ?_⟩
  rcases List.mem_or_eq_of_mem_set hx with h' | h'
  · exact h.2 x h'
  · exact .inr (by omega)
theorem partD_zero (n m : Nat) : partD n m (List.replicate m (-1)) := ⟨by simp, fun x hx => .inl (List.eq_of_mem_replicate hx)⟩
theorem settle_length (V : List (List Int)) (n f : Nat) : ∀ d, (settle V n f d).length = d.length := by
  induction f with
  | zero => intro d; rfl
  | succ f ih =>
    intro d
    simp only [settle]
    split
    · rfl
    · rw [ih, rotD_length]
theorem cycTo_length (V : List (List Int)) (n m g : Nat) : (cycTo V n m g).length = m := by
  induction g with
  | zero => simp [cycTo]
  | succ g ih => rw [cycTo, List.length_set, settle_length, ih]
theorem calm_lt {V : List (List Int)} {n j : Nat} {d : List Int} (h : calmO V d n = some j) : j < n ∧ ∀ i, i < n → envB V d i j = false := by
  unfold calmO at h
  refine ⟨List.mem_range.1 (List.mem_of_find?_eq_some h), fun i hi => ?_⟩
  have := List.find?_some h
  simp only [List.all_eq_true, List.mem_range, Bool.not_eq_true'] at this
  exact this i hi

/- Contract: some of the reference: all slices of different numbers. -/

/-- Numbers as ints. -/
def natI (l : List Nat) : List Int := l.map fun x : Nat => (x : Int)
theorem natI_length (l : List Nat) : (natI l).length = l.length := by simp [natI]
def natsI (L : List (List Nat)) : List (List Int) := L.map natI
theorem natsI_append (a b : List (List Nat)) : natsI (a ++ b) = natsI a ++ natsI b := by simp [natsI]
/-- The steps to numbers below x. -/
def stepTo (l : List Nat) (x : Nat) : List (List Nat) := ((List.range x).filter fun j => !l.contains j).map fun j => l ++ [j]
theorem stepTo_succ (l : List Nat) (x : Nat) : stepTo l (x + 1) = stepTo l x ++ if l.contains x then [] else [l ++ [x]] := by
  unfold stepTo
  rw [List.range_succ, List.filter_append, List.map_append]
  congr 1
  cases h : l.contains x <;> simp_all
theorem stepTo_length (l : List Nat) (x : Nat) : (stepTo l x).length ≤ x := by
  unfold stepTo; rw [List.length_map]
  exact Nat.le_trans (List.length_filter_le _ _) (by simp)
def permTo (n : Nat) (L : List (List Nat)) (j : Nat) : List (List Nat) := (L.take j).flatMap (stepL n)
theorem permTo_succ {n : Nat} {L : List (List Nat)} {j : Nat} {l : List Nat} (h : L[j]? = some l) : permTo n L (j + 1) = permTo n L j ++ stepTo l n := by
  unfold permTo
  rw [List.take_add_one, h, List.flatMap_append]
  simp [stepL, stepTo]
theorem permTo_length (n : Nat) (L : List (List Nat)) (j : Nat) : (permTo n L j).length ≤ j * n := by
  induction j with
  | zero => simp [permTo]
  | succ j ih =>
    cases h : L[j]? with
    | none =>
      have e : permTo n L (j + 1) = permTo n L j := by unfold permTo; rw [List.take_add_one, h]; simp
      rw [e, Nat.succ_mul]; omega
    | some l =>
      rw [permTo_succ h, List.length_append, Nat.succ_mul]
      have := stepTo_length l n
      omega
theorem perms_size : ∀ n k : Fin 5, k ≤ n → 0 < (perms n.val k.val).length ∧ (perms n.val k.val).length ≤ 24 := by decide +kernel
theorem has_natI (l : List Nat) (x : Nat) : has (natI l) (x : Int) = l.contains x := by
  unfold has natI
  rw [Bool.eq_iff_iff, decide_eq_true_eq, List.contains_iff_mem, List.mem_map]
  constructor
  · rintro ⟨y, hy, h⟩
    have e : y = x := by omega
    rwa [← e]
  · intro h; exact ⟨x, h, rfl⟩
theorem has_take_s {l : List Int} {j : Nat} {y x : Int} (h : l[j]? = some y) : has (l.take (j + 1)) x = (has (l.take j) x || decide (y = x)) := by
  unfold has
  rw [take_succ' h, Bool.eq_iff_iff]
  simp only [decide_eq_true_eq, List.mem_append, List.mem_singleton, Bool.or_eq_true]
  constructor
  · rintro (h | h)
    · exact .inl h
    · exact .inr h.symm
  · rintro (h | h)
    · exact .inl h
    · exact .inr h.symm

set_option maxRecDepth 100000 in
set_option maxHeartbeats 3200000 in
theorem r1some_any (n : Nat) (hn : 1 ≤ n ∧ n ≤ 4) (k : Nat) : ∀ (w : World), k ≤ n →
    Calls Try.prog 100 #[.int .i64 n, .int .i64 k] w (DivPost (natsI (perms n k)) w) := by
  induction k with
  | zero =>
    intro w _
    go_enter Try.func100, Try.ntmps100
    go_wp2_with fail
    go_ret
    refine ⟨_, 1, [.slice none 0 0], rfl, own_new (w := w) 23 #[.slice none 0 0] (show 1 ≤ maxLen by decide), Rows.one_ ⟨none, 0, rfl, Nat.le_refl _, by omega, (fun j u h => by simp [natI] at h), fun ad h => by cases h⟩, (fun v hv n c he => by rw [List.mem_singleton.1 hv] at he; injection he with _ h1 h2; exact ⟨h1.symm, h2.symm⟩), (Below.refl _ _).alloc (Nat.le_refl _) _⟩
  | succ k ih =>
    intro w hk
    have IH := Lib.hid ih
    have hps := perms_size ⟨n, by omega⟩ ⟨k, by omega⟩ (show k ≤ n by omega)
    have hmem := fun l => @mem_perms n k l
    obtain ⟨L, hL⟩ : ∃ L, L = perms n k := ⟨_, rfl⟩
    have hpost : natsI (perms n (k + 1)) = natsI (permTo n L L.length) := by
      rw [hL]; unfold permTo; rw [List.take_length]; rfl
    rw [hpost]
    have hps' : 0 < L.length ∧ L.length ≤ 24 := by rw [hL]; exact hps
    rw [← hL] at hmem
    have HL := Lib.hid (And.intro hL hmem)
    clear ih hL hmem hps hpost
    have hne : (((k + 1 : Nat) : Int) == 0) = false := by rw [beq_eq_false_iff_ne]; omega
    have hm1 : ((k + 1 : Nat) : Int) - 1 = (k : Int) := by omega
    obtain ⟨M, hM⟩ : ∃ M : Nat, M = k + 1 := ⟨_, rfl⟩
    rw [← hM] at hne hm1 ⊢
    have HM := Lib.hid hM
    have hM7 : M ≤ 4 := by omega
    clear hM
    go_enter Try.func100, Try.ntmps100
    go_wp2_with fail
    refine (IH.out _ (by omega)).mono ?_
    rw [← HL.out.1]
    rintro e w4 ⟨A4, c4, vs4, rfl, hown4, hrows4, hnz4, hbl4⟩
    have e0 : (natsI L).length = L.length := by simp [natsI]
    rw [e0] at hown4 ⊢
    have HNZ4 := Lib.hid hnz4
    clear hnz4 e0
    obtain ⟨g4, rfl, hg4, hg4b⟩ := own_some hown4 hps'.1
    obtain ⟨ql, hql⟩ : ∃ ql, ql = L.length := ⟨_, rfl⟩
    rw [← hql] at hps'
    have hat4 : At w4 (some ⟨g4, 0, none⟩) vs4 := At.of_own hown4
    have H4 := Lib.hid (And.intro hat4 (And.intro hrows4 (And.intro hbl4 hql)))
    have hw4 := hbl4.size
    rw [← hql]
    clear hown4 hrows4 hbl4 hat4 hql
    go_wp2_with fail
    go_loopw [5, 20] (fun ov jv wr => ∃ (j : Nat) (B : Option Addr) (q bc : Nat) (vs : List Value), j ≤ ql ∧ jv = .int .i64 j ∧ ov = .slice B q bc ∧ q = (permTo n L j).length ∧ wr.ownsRow w.heap.size 23 1 (.slice B q bc) q vs ∧ Rows wr 0 vs (natsI (permTo n L j)) ∧ Below w.heap.size w wr ∧ At wr (some ⟨g4, 0, none⟩) vs4 ∧ Rows wr 0 vs4 (natsI L) ∧ (∀ ad, B = some ad → ad.block ≠ g4) ∧ NoneZ vs) (fun _ jv _ => ql - (intOf jv).toNat)
    case atStart => exact ⟨0, none, 0, 0, [], Nat.zero_le _, rfl, rfl, rfl, World.ownsRow_nil _ _ _ _, Rows.nil, H4.out.2.2.1, H4.out.1, H4.out.2.1, (fun ad h => by cases h), (fun v hv => by cases hv)⟩
    case round =>
      obtain ⟨j, B, q, bc, vs, hj, rfl, rfl, hq, hown, hrows, hbl, hat, hrows4, hsep, hnz⟩ := hrel
      obtain ⟨wo, rfl⟩ : ∃ wo : World, wo = wr := ⟨_, rfl⟩
      by_cases hlj : j < ql
      · obtain ⟨l, hl⟩ : ∃ l, L[j]? = some l := ⟨_, List.getElem?_eq_getElem (by rw [← H4.out.2.2.2]; exact hlj)⟩
        obtain ⟨hll, _, hlb⟩ := HL.out.2 l (List.mem_of_getElem? hl)
        obtain ⟨v, hv, A', c', rfl, hc1, hc2, hI, _⟩ := hrows4.2 j (natI l) (by unfold natsI; rw [List.getElem?_map, hl]; rfl)
        rw [natI_length, hll] at hv hc1
        obtain ⟨ad, hadd, hcell⟩ := hat j _ hv
        injection hadd with hadd
        subst hadd
        have hcell' : wo.cell? ⟨g4, j, none⟩ = some (.slice A' k c') := by
          have e : (⟨g4, 0, none⟩ : Addr).add j = ⟨g4, j, none⟩ := by cases j <;> simp [Addr.add]
          rwa [e] at hcell
        have hA0 : A' = none → k = 0 ∧ c' = 0 := fun h => HNZ4.out _ (List.mem_of_getElem? hv) k c' (by rw [h])
        have HVJ := Lib.hid hv
        have l1 : (j : Int) < (ql : Int) := by omega
        have hq0 : q ≤ 1000 := by
          rw [hq]
          have h1 := permTo_length n L j
          have : j * n ≤ 24 * 4 := Nat.mul_le_mul (by omega) hn.2
          omega
        have HS := Lib.hid (And.intro hown (And.intro hrows (And.intro hbl (And.intro hat (And.intro hrows4 (And.intro hsep (And.intro hI (And.intro hl (And.intro hll (And.intro hq hnz))))))))))
        have hwo := hbl.size
        have hgo := lt_of_cell hcell'
        clear hown hrows hbl hat hrows4 hsep hI hl hll hq hnz hv hcell hlb
        go_wp2_with fail
        go_loopw [5, 25] (fun ov xv wr => ∃ (x : Nat) (B : Option Addr) (q bc : Nat) (vs : List Value), x ≤ n ∧ xv = .int .i64 x ∧ ov = .slice B q bc ∧ q = (permTo n L j ++ stepTo l x).length ∧ wr.ownsRow w.heap.size 23 1 (.slice B q bc) q vs ∧ Rows wr 0 vs (natsI (permTo n L j ++ stepTo l x)) ∧ Below w.heap.size w wr ∧ At wr (some ⟨g4, 0, none⟩) vs4 ∧ Rows wr 0 vs4 (natsI L) ∧ (∀ ad, B = some ad → ad.block ≠ g4) ∧ NoneZ vs ∧ Ints wr A' (natI l)) (fun _ xv _ => n - (intOf xv).toNat)
        case atStart => exact ⟨0, B, q, bc, vs, Nat.zero_le _, rfl, rfl, by simpa [stepTo] using HS.out.2.2.2.2.2.2.2.2.2.1, HS.out.1, by simpa [stepTo] using HS.out.2.1, HS.out.2.2.1, HS.out.2.2.2.1, HS.out.2.2.2.2.1, HS.out.2.2.2.2.2.1, HS.out.2.2.2.2.2.2.2.2.2.2, HS.out.2.2.2.2.2.2.1⟩
        case round =>
          obtain ⟨x, B1, q1, bc1, vs1, hx, rfl, rfl, hq1, hown, hrows, hbl, hat, hrows4, hsep, hnz, hIl⟩ := hrel
          obtain ⟨wp, rfl⟩ : ∃ wp : World, wp = wr := ⟨_, rfl⟩
          have hq2 : q1 ≤ 1000 := by
            rw [hq1, List.length_append]
            have h1 := permTo_length n L j
            have h2 := stepTo_length l x
            have : j * n ≤ 24 * 4 := Nat.mul_le_mul (by omega) hn.2
            omega
          have HX := Lib.hid (And.intro hown (And.intro hrows (And.intro hbl (And.intro hat (And.intro hrows4 (And.intro hsep (And.intro hnz (And.intro hIl hq1))))))))
          have hwp := hbl.size
          have hgp : g4 < wp.heap.size := by
            obtain ⟨ad, h1, h2⟩ := hat 0 _ (List.getElem?_eq_getElem (show 0 < vs4.length by have := hrows4.1; simp [natsI] at this; have := H4.out.2.2.2; omega))
            injection h1 with h1
            subst h1
            have := lt_of_cell h2
            rwa [add_block] at this
          clear hown hrows hbl hat hrows4 hsep hnz hIl hq1
          by_cases hlx : x < n
          · have l2 : (x : Int) < (n : Int) := by omega
            go_wp2_with fail
            go_loop [9, 30] (fun fv yv => ∃ y : Nat, y ≤ k ∧ yv = .int .i64 y ∧ fv = .bool (!has ((natI l).take y) (x : Int))) (fun _ yv => k - (intOf yv).toNat)
            case atStart => exact ⟨0, Nat.zero_le _, rfl, by simp [has]⟩
            case round =>
              obtain ⟨y, hy, rfl, rfl⟩ := hrel
              obtain ⟨b, hb⟩ : ∃ b, b = !has ((natI l).take y) (x : Int) := ⟨_, rfl⟩
              rw [← hb]
              have HB := Lib.hid hb
              clear hb
              by_cases hly : y < k
              · obtain ⟨z, hz⟩ : ∃ z, (natI l)[y]? = some z := ⟨_, List.getElem?_eq_getElem (by rw [natI_length, HS.out.2.2.2.2.2.2.2.2.1]; exact hly)⟩
                obtain ⟨za, rfl, hzc⟩ := HX.out.2.2.2.2.2.2.2.1 y (.int .i64 z) (by rw [List.getElem?_map, hz]; rfl)
                have HT := Lib.hid (has_take_s (x := (x : Int)) hz)
                have l3 : (y : Int) < (k : Int) := by omega
                clear hz
                cases b
                · have HN : Hid ((!has ((natI l).take (y + 1)) (x : Int)) = false) := Lib.hid (by rw [HT.out]; have := HB.out; simp at this; simp [← this])
                  go_wp2_with fail
                  go_round
                  case rel => exact ⟨y + 1, by omega, by go_num, by rw [HN.out]⟩
                  case measure => simp [intOf]; omega
                · by_cases he : z = (x : Int)
                  · have hbn : ((x : Int) != z) = false := by simp [he]
                    have HN : Hid ((!has ((natI l).take (y + 1)) (x : Int)) = false) := Lib.hid (by rw [HT.out, decide_eq_true he]; simp)
                    clear he
                    go_wp2_with fail
                    go_round
                    case rel => exact ⟨y + 1, by omega, by go_num, by rw [HN.out]⟩
                    case measure => simp [intOf]; omega
                  · have hbn : ((x : Int) != z) = true := by rw [bne_iff_ne]; exact fun h => he h.symm
                    have HN : Hid ((!has ((natI l).take (y + 1)) (x : Int)) = true) := Lib.hid (by rw [HT.out, decide_eq_false he]; have := HB.out; simp at this; simp [this])
                    clear he
                    go_wp2_with fail
                    go_round
                    case rel => exact ⟨y + 1, by omega, by go_num, by rw [HN.out]⟩
                    case measure => simp [intOf]; omega
              · obtain rfl : y = k := by omega
                have hfull : (natI l).take y = natI l := List.take_of_length_le (by rw [natI_length, HS.out.2.2.2.2.2.2.2.2.1]; exact Nat.le_refl _)
                have HF : Hid (b = !l.contains x) := Lib.hid (by rw [HB.out, hfull, has_natI])
                clear hfull
                have HST := Lib.hid (stepTo_succ l x)
                cases b
                · have hc : l.contains x = true := by have := HF.out; simpa using this
                  have HE : Hid (stepTo l (x + 1) = stepTo l x) := Lib.hid (by rw [HST.out, hc]; simp)
                  clear hc
                  go_wp2_with fail
                  go_roundw
                  case rel => exact ⟨x + 1, B1, q1, bc1, vs1, by omega, by go_num, rfl, by rw [HE.out]; exact HX.out.2.2.2.2.2.2.2.2, HX.out.1, by rw [HE.out]; exact HX.out.2.1, HX.out.2.2.1, HX.out.2.2.2.1, HX.out.2.2.2.2.1, HX.out.2.2.2.2.2.1, HX.out.2.2.2.2.2.2.1, HX.out.2.2.2.2.2.2.2.1⟩
                  case measure => simp [intOf]; omega
                · have hc : l.contains x = false := by have := HF.out; simpa using this
                  have HE : Hid (stepTo l (x + 1) = stepTo l x ++ [l ++ [x]]) := Lib.hid (by rw [HST.out, hc]; simp)
                  clear hc
                  go_wp2_with (at_builtin; refine appN sty_int rfl _ _ rfl wp.heap.size (some ⟨wp.heap.size, 0, none⟩) 0 0 [] rfl ?d1 A' y c' ((natI l).map (Value.int .i64)) hA0 ?d2 ?d3 ?d4 rfl (by omega) (by go_size) ?_)
                  case d1 => exact own_new (w := wp) 3 #[] (show 0 ≤ maxLen by decide)
                  case d2 => rw [natI_length]; exact HS.out.2.2.2.2.2.2.2.2.1
                  case d3 => exact HX.out.2.2.2.2.2.2.2.1.below ((Below.refl _ _).alloc (Nat.le_refl _) _)
                  case d4 => intro a _; rfl
                  intro A6 k6 w6 hown6 _ hbl6 hk61 hk62
                  have hb6 : Below wp.heap.size wp w6 := ((Below.refl wp.heap.size wp).alloc (Nat.le_refl _) _).trans hbl6
                  have hw6 := hb6.size
                  have HO6 := Lib.hid (And.intro hown6 hb6)
                  clear hown6 hbl6 hb6
                  go_wp2_with (at_builtin; refine app1 sty_int rfl _ _ rfl wp.heap.size A6 y k6 _ #[.int .i64 (x : Int)] rfl (by simp [Value.oneCell']) rfl HO6.out.1 rfl (by omega) hw6 ?_)
                  intro A7 k7 w7 hown7 _ hbl7 hk71 hk72
                  have hown7' : w7.ownsRow wp.heap.size 3 1 (.slice A7 (y + 1) k7) (y + 1) ((natI (l ++ [x])).map (Value.int .i64)) := by
                    have e : (natI (l ++ [x])).map (Value.int .i64) = (natI l).map (Value.int .i64) ++ [.int .i64 (x : Int)] := by simp [natI]
                    rw [e]; exact hown7
                  have hb7 : Below wp.heap.size wp w7 := HO6.out.2.trans hbl7
                  have hrow7 := Row1.of_own hown7' 0
                  have hw7 := hb7.size
                  have hown27 := own_below HX.out.1 hb7
                  obtain ⟨ad7, hA7, _⟩ := own_some hown7' (by omega)
                  subst hA7
                  have H7 := Lib.hid (And.intro hrow7 (And.intro hown27 (And.intro (HX.out.2.1.below hb7) (And.intro (HX.out.2.2.1.trans (hb7.mono hwp)) (And.intro (HX.out.2.2.2.1.below hb7) (And.intro (HX.out.2.2.2.2.1.below hb7) (HX.out.2.2.2.2.2.2.2.1.below hb7)))))))
                  clear hown7 hown7' hbl7 hb7 hrow7 hown27
                  go_wp2_with (at_builtin; refine app1w sty_intss rfl _ _ rfl w.heap.size B1 q1 bc1 _ (.slice (some ⟨ad7, 0, none⟩) (y + 1) k7) (by simp [Value.oneCell']) rfl H7.out.2.1 w7.heap.size rfl rfl (by omega) (by omega) ?_)
                  intro A8 k8 w8 hown8 hg8 hbl8 hk81 hk82 hst8
                  have hB : ∀ ad, B1 = some ad → ad.block ≠ g4 := HX.out.2.2.2.2.2.1
                  have hne4 : some g4 ≠ (Value.slice B1 q1 bc1).ownBlock := by
                    cases B1 with
                    | none => intro h; cases h
                    | some ad => intro h; injection h with h; exact hB ad rfl h.symm
                  have hrows8 : Rows w8 0 (vs1 ++ [.slice (some ⟨ad7, 0, none⟩) (y + 1) k7]) (natsI (permTo n L j ++ stepTo l (x + 1))) := by
                    rw [HE.out, ← List.append_assoc, natsI_append]
                    have hl7 : (y + 1) = (natI (l ++ [x])).length := by rw [natI_length]; simp [HS.out.2.2.2.2.2.2.2.2.1]
                    exact (H7.out.2.2.1.grown H7.out.2.1 (Nat.zero_le _) hg8).append (Rows.one_ (H7.out.1.grown H7.out.2.1 (Nat.zero_le _) hg8))
                  have hat8 : At w8 (some ⟨g4, 0, none⟩) vs4 := by
                    intro t u hu
                    obtain ⟨ad, h1, h2⟩ := H7.out.2.2.2.2.1 t u hu
                    injection h1 with h1
                    subst h1
                    exact ⟨_, rfl, hg8.cell h2 (by rw [add_block]; exact hne4)⟩
                  have hrows48 := H7.out.2.2.2.2.2.1.grown H7.out.2.1 (Nat.zero_le _) hg8
                  have hsep8 : ∀ ad, A8 = some ad → ad.block ≠ g4 := by
                    intro ad had
                    rcases hst8 ad (q1 + 1) k8 (by rw [had]) with ⟨n0, k0, h⟩ | h
                    · injection h with h; exact hB ad h
                    · omega
                  obtain ⟨v8, hv8, A8', c8', hve, _, _, hI8, _⟩ := hrows48.2 j (natI l) (by unfold natsI; rw [List.getElem?_map, HS.out.2.2.2.2.2.2.2.1]; rfl)
                  have H8 := Lib.hid (And.intro hown8 (And.intro hrows8 (And.intro (H7.out.2.2.2.1.trans hbl8) (And.intro hat8 (And.intro hrows48 hsep8)))))
                  have HI8 : Hid (Ints w8 A' (natI l)) := Lib.hid (by
                    have h1 := HVJ.out
                    rw [hv8, hve] at h1
                    injection h1 with h1
                    injection h1 with h1
                    rw [← h1]; exact hI8)
                  clear hown8 hrows8 hbl8 hat8 hrows48 hsep8 hst8 hg8 hne4 hB hv8 hve hI8
                  go_wp2_with fail
                  go_roundw
                  case rel => exact ⟨x + 1, A8, q1 + 1, k8, _, by omega, by go_num, by go_num, by rw [HE.out, ← List.append_assoc, List.length_append, ← HX.out.2.2.2.2.2.2.2.2]; rfl, H8.out.1, H8.out.2.1, H8.out.2.2.1, H8.out.2.2.2.1, H8.out.2.2.2.2.1, H8.out.2.2.2.2.2, HX.out.2.2.2.2.2.2.1.snoc, HI8.out⟩
                  case measure => simp [intOf]; omega
          · obtain rfl : x = n := by omega
            have HP := Lib.hid (permTo_succ (n := x) HS.out.2.2.2.2.2.2.2.1)
            go_wp2_with fail
            go_roundw
            case rel => exact ⟨j + 1, B1, q1, bc1, vs1, by omega, by go_num, rfl, by rw [HP.out]; exact HX.out.2.2.2.2.2.2.2.2, HX.out.1, by rw [HP.out]; exact HX.out.2.1, HX.out.2.2.1, HX.out.2.2.2.1, HX.out.2.2.2.2.1, HX.out.2.2.2.2.2.1, HX.out.2.2.2.2.2.2.1⟩
            case measure => simp [intOf]; omega
      · obtain rfl : j = ql := by omega
        have HS := Lib.hid (And.intro hown (And.intro hrows (And.intro hbl (And.intro hnz hq))))
        have HJ := Lib.hid H4.out.2.2.2
        clear hown hrows hbl hat hrows4 hsep hnz hq
        go_wp2_with fail
        go_ret
        have hh := HS.out.2.2.2.2
        rw [← HJ.out]
        refine ⟨B, bc, vs, ?_, ?_, HS.out.2.1, HS.out.2.2.2.1, HS.out.2.2.1⟩
        · simp only [natsI, List.length_map]; rw [← hh]; rfl
        · simp only [natsI, List.length_map]; rw [← hh]; exact HS.out.1

/- Contracts: envies and envy of the reference. -/

set_option maxHeartbeats 800000 in
theorem r1envies_any (A : Option Addr) (n cap : Nat) (D : Option Addr) (m capd i j : Nat) (V : List (List Int)) (d : List Int) (w : World) (hl : V.length = n) (hn : n ≤ 1000) (hi : i < n) (hld : d.length = m) (hm : m ≤ 1000)
    (hr : (rowV V i).length = m) (hrb : ∀ x ∈ rowV V i, 0 ≤ x ∧ x ≤ 100) (hV : Mat w A V) (hD : Ints w D d) :
    Calls Try.prog 65 #[.slice A n cap, .slice D m capd, .int .i64 i, .int .i64 j] w fun e w' => e = .returned (.bool (envB V d i j)) ∧ w = w' := by
  have H := Lib.hid (And.intro hl (And.intro hld (And.intro hr (And.intro hrb (And.intro hV hD)))))
  clear hl hld hr hrb hV hD
  go_enter Try.func65, Try.ntmps65
  go_wp2_with fail
  refine (r1worth_any A n cap D m capd i (j : Int) V d _ H.out.1 hn hi H.out.2.1 hm H.out.2.2.1 H.out.2.2.2.1 H.out.2.2.2.2.1 H.out.2.2.2.2.2).mono ?_
  rintro e w' ⟨rfl, rfl⟩
  obtain ⟨a, ha⟩ : ∃ a, a = wor V d i (j : Int) := ⟨_, rfl⟩
  rw [← ha]
  have HA := Lib.hid ha
  clear ha
  go_wp2_with fail
  refine (r1worth_any A n cap D m capd i (i : Int) V d _ H.out.1 hn hi H.out.2.1 hm H.out.2.2.1 H.out.2.2.2.1 H.out.2.2.2.2.1 H.out.2.2.2.2.2).mono ?_
  rintro e w' ⟨rfl, rfl⟩
  obtain ⟨b, hb⟩ : ∃ b, b = wor V d i (i : Int) := ⟨_, rfl⟩
  rw [← hb]
  have HB : Hid (decide (b < a) = envB V d i j) := Lib.hid (by unfold envB; rw [HA.out, hb])
  clear hb
  go_wp2_with fail
  go_ret
  exact ⟨ret_bool HB.out, rfl⟩

/-- What envy leaves. -/
def R1EnvyPost (ps : List (Nat × Nat)) (w : World) (e : Ending) (w' : World) : Prop :=
  ∃ A c, e = .returned (.slice A ps.length c) ∧ ps.length ≤ 1000 ∧ Pairs w' A ps ∧ Below w.heap.size w w'

set_option maxRecDepth 100000 in
set_option maxHeartbeats 1600000 in
theorem r1envy_any (A : Option Addr) (n cap : Nat) (D : Option Addr) (m capd : Nat) (V : List (List Int)) (d : List Int) (w : World) (hl : V.length = n) (hn : n ≤ 10) (hld : d.length = m) (hm : m ≤ 1000)
    (hr : ∀ i, i < n → (rowV V i).length = m ∧ ∀ x ∈ rowV V i, 0 ≤ x ∧ x ≤ 100) (hV : Mat w A V) (hD : Ints w D d) :
    Calls Try.prog 34 #[.slice A n cap, .slice D m capd] w (R1EnvyPost (envL V d n) w) := by
  have H := Lib.hid (And.intro hl (And.intro hld (And.intro hr (And.intro hV hD))))
  clear hl hld hr hV hD
  go_enter Try.func34, Try.ntmps34
  go_wp2_with fail
  go_loopw [5, 10] (fun ov iv wr => ∃ (i : Nat) (B : Option Addr) (q bc : Nat), i ≤ n ∧ iv = .int .i64 i ∧ ov = .slice B q bc ∧ q = (envTo V d n i).length ∧ wr.ownsRow w.heap.size 38 2 (.slice B q bc) q (pcells (envTo V d n i)) ∧ Below w.heap.size w wr) (fun _ iv _ => n - (intOf iv).toNat)
  case atStart => exact ⟨0, none, 0, 0, Nat.zero_le _, rfl, rfl, rfl, World.ownsRow_nil _ _ _ _, Below.refl _ _⟩
  case round =>
    obtain ⟨i, B, q, bc, hi, rfl, rfl, hq, hown, hbl⟩ := hrel
    obtain ⟨wo, rfl⟩ : ∃ wo : World, wo = wr := ⟨_, rfl⟩
    have HR := Lib.hid (And.intro hq (And.intro hown hbl))
    clear hq hown hbl
    by_cases hlt : i < n
    · have l1 : (i : Int) < (n : Int) := by omega
      go_wp2_with fail
      go_loopw [5, 15] (fun ov jv wr => ∃ (j : Nat) (B : Option Addr) (q bc : Nat), j ≤ n ∧ jv = .int .i64 j ∧ ov = .slice B q bc ∧ q = (envTo V d n i ++ envRow V d i j).length ∧ wr.ownsRow w.heap.size 38 2 (.slice B q bc) q (pcells (envTo V d n i ++ envRow V d i j)) ∧ Below w.heap.size w wr) (fun _ jv _ => n - (intOf jv).toNat)
      case atStart => exact ⟨0, B, q, bc, Nat.zero_le _, rfl, rfl, by rw [HR.out.1]; simp [envRow], by have := HR.out.2.1; simpa [envRow] using this, HR.out.2.2⟩
      case round =>
        obtain ⟨j, B1, q1, bc1, hj, rfl, rfl, hq1, hown1, hbl1⟩ := hrel
        have hq100 : q1 ≤ 200 := by
          rw [hq1, List.length_append]
          have h1 := envTo_length V d n i
          have h2 := envRow_length V d i j
          have h3 : n * i ≤ 10 * 10 := Nat.mul_le_mul (by omega) (by omega)
          omega
        have hwsz := hbl1.size
        have HJ := Lib.hid (And.intro hq1 (And.intro hown1 hbl1))
        clear hq1 hown1 hbl1
        by_cases hlj : j < n
        · have l2 : (j : Int) < (n : Int) := by omega
          go_wp2_with fail
          refine (r1envies_any A n cap D m capd i j V d _ H.out.1 (by omega) hlt H.out.2.1 hm (H.out.2.2.1 i hlt).1 (H.out.2.2.1 i hlt).2 (H.out.2.2.2.1.below HJ.out.2.2) (H.out.2.2.2.2.below HJ.out.2.2)).mono ?_
          rintro e w' ⟨rfl, rfl⟩
          have hs := envRow_succ V d i j
          obtain ⟨b, hb⟩ : ∃ b, b = envB V d i j := ⟨_, rfl⟩
          rw [← hb] at hs ⊢
          have HS := Lib.hid hs
          clear hs hb
          cases b
          · go_wp2_with fail
            go_roundw
            case rel =>
              refine ⟨j + 1, B1, q1, bc1, by omega, by go_num, rfl, ?_, ?_, HJ.out.2.2⟩
              · rw [HS.out]; simpa using HJ.out.1
              · rw [HS.out]; simpa using HJ.out.2.1
            case measure => simp [intOf]; omega
          · have HNEW : Hid (pcells (envTo V d n i ++ envRow V d i (j + 1)) = pcells (envTo V d n i ++ envRow V d i j) ++ [.int .i64 (i : Int), .int .i64 (j : Int)] ∧ (envTo V d n i ++ envRow V d i (j + 1)).length = (envTo V d n i ++ envRow V d i j).length + 1) := Lib.hid (by
              rw [HS.out]
              simp only [if_true, ← List.append_assoc, pcells_append]
              exact ⟨rfl, by simp; omega⟩)
            go_wp2_with (at_builtin; refine app1 sty_pair rfl _ _ rfl w.heap.size B1 q1 bc1 _ #[.int .i64 (i : Int), .int .i64 (j : Int)] rfl (by simp [Value.oneCell']) rfl HJ.out.2.1 rfl (by omega) (by omega) ?_)
            intro A4 k4 w4 hown4 _ hbl4 hk41 hk42
            have hown4' : w4.ownsRow w.heap.size 38 2 (.slice A4 (q1 + 1) k4) (q1 + 1) (pcells (envTo V d n i ++ envRow V d i (j + 1))) := by rw [HNEW.out.1]; exact hown4
            have H4 := Lib.hid (And.intro hown4' (HJ.out.2.2.trans hbl4))
            clear hown4 hown4' hbl4
            go_wp2_with fail
            go_roundw
            case rel => exact ⟨j + 1, A4, q1 + 1, k4, by omega, by go_num, by go_num, by rw [HNEW.out.2, HJ.out.1], H4.out.1, H4.out.2⟩
            case measure => simp [intOf]; omega
        · obtain rfl : j = n := by omega
          go_wp2_with fail
          go_roundw
          case rel => exact ⟨i + 1, B1, q1, bc1, by omega, by go_num, rfl, by rw [envTo_succ]; exact HJ.out.1, by rw [envTo_succ]; exact HJ.out.2.1, HJ.out.2.2⟩
          case measure => simp [intOf]; omega
    · obtain rfl : i = n := by omega
      go_wp2_with fail
      go_ret
      refine ⟨B, bc, ?_, ?_, At.of_own HR.out.2.1, HR.out.2.2⟩
      · have h := HR.out.1; unfold envL; rw [← h]; rfl
      · have h1 := envTo_length V d i i
        have h3 : i * i ≤ 10 * 10 := Nat.mul_le_mul (by omega) (by omega)
        unfold envL; omega

/- Contract: calm of the reference. -/

theorem range_find_none {p : Nat → Bool} {n : Nat} (h : ∀ j, j < n → p j = false) : (List.range n).find? p = none := by
  rw [List.find?_eq_none]
  intro j hj
  rw [h j (List.mem_range.1 hj)]; simp
theorem range_find_some {p : Nat → Bool} {n k : Nat} (hk : k < n) (h : ∀ j, j < k → p j = false) (hp : p k = true) : (List.range n).find? p = some k := by
  have e : List.range n = List.range k ++ List.range' k (n - k) := by
    rw [List.range_eq_range', List.range_eq_range', show n = k + (n - k) by omega, ← List.range'_append_1]
    simp
  rw [e, List.find?_append, range_find_none h, show n - k = (n - k - 1) + 1 by omega, List.range'_succ]
  simp [hp]
/-- The answer of calm. -/
def calmI (V : List (List Int)) (d : List Int) (n : Nat) : Int := match calmO V d n with | some j => (j : Int) | none => -1

set_option maxRecDepth 100000 in
set_option maxHeartbeats 3200000 in
theorem r1calm_any (A : Option Addr) (n cap : Nat) (D : Option Addr) (m capd : Nat) (V : List (List Int)) (d : List Int) (w : World) (hl : V.length = n) (hn : n ≤ 1000) (hld : d.length = m) (hm : m ≤ 1000)
    (hr : ∀ i, i < n → (rowV V i).length = m ∧ ∀ x ∈ rowV V i, 0 ≤ x ∧ x ≤ 100) (hV : Mat w A V) (hD : Ints w D d) :
    Calls Try.prog 74 #[.slice A n cap, .slice D m capd] w fun e w' => e = .returned (.int .i64 (calmI V d n)) ∧ w = w' := by
  have H := Lib.hid (And.intro hl (And.intro hld (And.intro hr (And.intro hV hD))))
  clear hl hld hr hV hD
  go_enter Try.func74, Try.ntmps74
  go_wp2_with fail
  go_loop [10] (fun jv => ∃ j : Nat, j ≤ n ∧ jv = .int .i64 j ∧ ∀ k, k < j → ((List.range n).all fun i => !envB V d i k) = false) (fun jv => n - (intOf jv).toNat)
  case atStart => exact ⟨0, Nat.zero_le _, rfl, fun k hk => by omega⟩
  case round =>
    obtain ⟨j, hj, rfl, hno⟩ := hrel
    have HN := Lib.hid hno
    clear hno
    by_cases hlt : j < n
    · have l1 : (j : Int) < (n : Int) := by omega
      go_wp2_with fail
      go_loop [6, 15] (fun bv iv => ∃ i : Nat, i ≤ n ∧ iv = .int .i64 i ∧ bv = .bool (!(List.range i).all fun i => !envB V d i j)) (fun _ iv => n - (intOf iv).toNat)
      case atStart => exact ⟨0, Nat.zero_le _, rfl, rfl⟩
      case round =>
        obtain ⟨i, hi, rfl, rfl⟩ := hrel
        obtain ⟨b, hb⟩ : ∃ b, b = !(List.range i).all fun i => !envB V d i j := ⟨_, rfl⟩
        rw [← hb]
        have HB := Lib.hid hb
        clear hb
        by_cases hlti : i < n
        · have l2 : (i : Int) < (n : Int) := by omega
          have HS : Hid ((List.range (i + 1)).all (fun i => !envB V d i j) = ((List.range i).all (fun i => !envB V d i j) && !envB V d i j)) := Lib.hid (by rw [List.range_succ, List.all_append]; simp)
          cases b
          · go_wp2_with fail
            refine (r1envies_any A n cap D m capd i j V d _ H.out.1 hn hlti H.out.2.1 hm (H.out.2.2.1 i hlti).1 (H.out.2.2.1 i hlti).2 H.out.2.2.2.1 H.out.2.2.2.2).mono ?_
            rintro e w' ⟨rfl, rfl⟩
            obtain ⟨v, hv⟩ : ∃ v, v = envB V d i j := ⟨_, rfl⟩
            rw [← hv]
            have HE : Hid ((!(List.range (i + 1)).all (fun i => !envB V d i j)) = v) := Lib.hid (by
              have h := HB.out
              rw [HS.out, hv]
              cases ha : (List.range i).all (fun i => !envB V d i j)
              · rw [ha] at h; cases h
              · simp)
            clear hv
            go_wp2_with fail
            go_round
            case rel => exact ⟨i + 1, by omega, by go_num, by rw [HE.out]⟩
            case measure => simp [intOf]; omega
          · have HE : Hid ((!(List.range (i + 1)).all (fun i => !envB V d i j)) = true) := Lib.hid (by
              have h := HB.out
              rw [HS.out]
              cases ha : (List.range i).all (fun i => !envB V d i j)
              · simp
              · rw [ha] at h; cases h)
            go_wp2_with fail
            go_round
            case rel => exact ⟨i + 1, by omega, by go_num, by rw [HE.out]⟩
            case measure => simp [intOf]; omega
        · obtain rfl : i = n := by omega
          cases b
          · have HF : Hid (calmI V d i = (j : Int)) := Lib.hid (by
              have h : ((List.range i).all fun i => !envB V d i j) = true := by have := HB.out; simpa using this.symm
              unfold calmI calmO
              rw [range_find_some hlt HN.out h])
            go_wp2_with fail
            go_ret
            exact ⟨ret_int HF.out.symm, rfl⟩
          · have HF : Hid (∀ k, k < j + 1 → ((List.range i).all fun i => !envB V d i k) = false) := Lib.hid (fun k hk => by
              rcases Nat.lt_succ_iff_lt_or_eq.1 hk with h | h
              · exact HN.out k h
              · rw [h]; have := HB.out; simpa using this.symm)
            go_wp2_with fail
            go_round
            case rel => exact ⟨j + 1, by omega, by go_num, HF.out⟩
            case measure => simp [intOf]; omega
    · obtain rfl : j = n := by omega
      have HF : Hid (calmI V d j = -1) := Lib.hid (by
        unfold calmI calmO
        rw [range_find_none HN.out])
      go_wp2_with fail
      go_ret
      exact ⟨ret_int HF.out.symm, rfl⟩

/- Contract: cycle of the reference. -/

theorem findSome_range' {α : Type} {f : Nat → Option α} {s n k : Nat} {x : α} (h1 : s ≤ k) (h2 : k < s + n) (h : ∀ j, s ≤ j → j < k → f j = none) (hx : f k = some x) : (List.range' s n).findSome? f = some x := by
  have e : List.range' s n = List.range' s (k - s) ++ List.range' k (s + n - k) := by
    have h3 := List.range'_append_1 (s := s) (m := k - s) (n := s + n - k)
    rw [show s + (k - s) = k by omega, show k - s + (s + n - k) = n by omega] at h3
    exact h3.symm
  have e0 : (List.range' s (k - s)).findSome? f = none := by
    rw [List.findSome?_eq_none_iff]
    intro j hj
    have := List.mem_range'_1.1 hj
    exact h j this.1 (by omega)
  rw [e, List.findSome?_append, e0, show s + n - k = (s + n - k - 1) + 1 by omega, List.range'_succ]
  simp [hx]
theorem find_at {α : Type} {L : List α} {p : α → Bool} {j : Nat} {x : α} (hj : L[j]? = some x) (h : ∀ (i : Nat) (y : α), i < j → L[i]? = some y → p y = false) (hp : p x = true) : L.find? p = some x := by
  have hlt := (List.getElem?_eq_some_iff.1 hj).1
  have e : L = L.take j ++ (x :: L.drop (j + 1)) := by
    conv => lhs; rw [← List.take_append_drop j L]
    rw [List.drop_eq_getElem_cons hlt, (List.getElem?_eq_some_iff.1 hj).2]
  have e0 : (L.take j).find? p = none := by
    rw [List.find?_eq_none]
    intro y hy
    obtain ⟨i, hi⟩ := List.getElem?_of_mem hy
    have hij : i < j := by have := (List.getElem?_eq_some_iff.1 hi).1; rw [List.length_take] at this; omega
    rw [List.getElem?_take_of_lt hij] at hi
    rw [h i y hij hi]; simp
  rw [e, List.find?_append, e0]
  simp [hp]
theorem find_no {α : Type} {L : List α} {p : α → Bool} (h : ∀ (i : Nat) (y : α), L[i]? = some y → p y = false) : L.find? p = none := by
  rw [List.find?_eq_none]
  intro y hy
  obtain ⟨i, hi⟩ := List.getElem?_of_mem hy
  rw [h i y hi]; simp
theorem natI_get {l : List Nat} {k : Nat} (h : k < l.length) : (natI l)[k]? = some (l.getD k 0 : Int) := by
  unfold natI
  rw [List.getElem?_map, List.getElem?_eq_getElem h, List.getD_eq_getElem?_getD, List.getElem?_eq_getElem h]
  rfl

/-- What cycle leaves. -/
def CycPost (l : List Nat) (w : World) (e : Ending) (w' : World) : Prop :=
  ∃ A c, e = .returned (.slice (some A) l.length c) ∧ l.length ≤ c ∧ c ≤ 9223372036854775807 ∧ Ints w' (some A) (natI l) ∧ Below w.heap.size w w'

set_option maxRecDepth 100000 in
set_option maxHeartbeats 3200000 in
theorem r1cycle_any (A : Option Addr) (n cap : Nat) (D : Option Addr) (m capd : Nat) (V : List (List Int)) (d : List Int) (l0 : List Nat) (w : World) (hl : V.length = n) (hn : 1 ≤ n ∧ n ≤ 4) (hld : d.length = m) (hm : m ≤ 1000)
    (hr : ∀ i, i < n → (rowV V i).length = m ∧ ∀ x ∈ rowV V i, 0 ≤ x ∧ x ≤ 100) (hV : Mat w A V) (hD : Ints w D d) (hsome : cycO V d n = some l0) :
    Calls Try.prog 75 #[.slice A n cap, .slice D m capd] w (CycPost l0 w) := by
  have H := Lib.hid (And.intro hl (And.intro hld (And.intro hr (And.intro hV (And.intro hD hsome)))))
  clear hl hld hr hV hD hsome
  go_enter Try.func75, Try.ntmps75
  go_wp2_with fail
  go_loopw [5] (fun kv wr => ∃ k : Nat, 2 ≤ k ∧ k ≤ n + 1 ∧ kv = .int .i64 k ∧ (∀ k', 2 ≤ k' → k' < k → (perms n k').find? (isC V d) = none) ∧ Below w.heap.size w wr) (fun kv _ => n + 2 - (intOf kv).toNat)
  case atStart => exact ⟨2, by omega, by omega, rfl, fun k' _ _ => by omega, Below.refl _ _⟩
  case round =>
    obtain ⟨k, hk2, hkn, rfl, hno, hbl⟩ := hrel
    have HR := Lib.hid (And.intro hno hbl)
    clear hno hbl
    by_cases hle : k ≤ n
    · have l1 : (k : Int) ≤ (n : Int) := by omega
      go_wp2_with fail
      refine (r1some_any n hn k _ hle).mono ?_
      rintro e w4 ⟨A4, c4, vs4, rfl, hown4, hrows4, _, hbl4⟩
      obtain ⟨L, hL⟩ : ∃ L, L = perms n k := ⟨_, rfl⟩
      have hmem := fun l => @mem_perms n k l
      have hps := (perms_size ⟨n, by omega⟩ ⟨k, by omega⟩ (show k ≤ n by omega))
      simp only at hps
      rw [← hL] at hown4 hrows4 hmem hps ⊢
      obtain ⟨q, hq⟩ : ∃ q, q = (natsI L).length := ⟨_, rfl⟩
      have hqL : q = L.length := by rw [hq]; simp [natsI]
      rw [← hq] at hown4 ⊢
      have hq24 : q ≤ 24 := by omega
      obtain ⟨g4, rfl, _, _⟩ := own_some hown4 (by omega)
      have hat4 : At w4 (some ⟨g4, 0, none⟩) vs4 := At.of_own hown4
      have hw4 : Below w.heap.size w w4 := HR.out.2.trans (hbl4.mono HR.out.2.size)
      have H4 := Lib.hid (And.intro hat4 (And.intro hrows4 (And.intro hw4 (And.intro hqL (And.intro hmem hL)))))
      clear hown4 hrows4 hbl4 hat4 hw4 hq hqL hmem hL
      go_wp2_with fail
      go_loop [22] (fun jv => ∃ j : Nat, j ≤ q ∧ jv = .int .i64 j ∧ ∀ i l, i < j → L[i]? = some l → isC V d l = false) (fun jv => q - (intOf jv).toNat)
      case atStart => exact ⟨0, Nat.zero_le _, rfl, fun i l hi => by omega⟩
      case round =>
        obtain ⟨j, hj, rfl, hnoj⟩ := hrel
        have HJ := Lib.hid hnoj
        clear hnoj
        by_cases hlj : j < q
        · obtain ⟨l, hl⟩ : ∃ l, L[j]? = some l := ⟨_, List.getElem?_eq_getElem (by rw [← H4.out.2.2.2.1]; exact hlj)⟩
          obtain ⟨hll, _, hlb⟩ := H4.out.2.2.2.2.1 l (List.mem_of_getElem? hl)
          obtain ⟨v, hv, A', c', rfl, hc1, hc2, hI, _⟩ := H4.out.2.1.2 j (natI l) (by unfold natsI; rw [List.getElem?_map, hl]; rfl)
          rw [natI_length, hll] at hv hc1
          obtain ⟨ad, hadd, hcell⟩ := H4.out.1 j _ hv
          injection hadd with hadd
          subst hadd
          have hcell' : w4.cell? ⟨g4, j, none⟩ = some (.slice A' k c') := by
            have e : (⟨g4, 0, none⟩ : Addr).add j = ⟨g4, j, none⟩ := by cases j <;> simp [Addr.add]
            rwa [e] at hcell
          obtain ⟨la, rfl, _, hlc⟩ := hI.some_ (by rw [natI_length, hll]; omega)
          have l2 : (j : Int) < (q : Int) := by omega
          have HLL := Lib.hid (And.intro hl (And.intro hll (And.intro hlb (And.intro hI hlc))))
          clear hl hll hlb hI hlc hv hcell
          go_wp2_with fail
          go_loop [8, 28] (fun ov xv => ∃ x : Nat, x ≤ k ∧ xv = .int .i64 x ∧ ov = .bool ((List.range x).all fun x => envB V d (l.getD x 0) (l.getD ((x + 1) % k) 0))) (fun _ xv => k - (intOf xv).toNat)
          case atStart => exact ⟨0, Nat.zero_le _, rfl, rfl⟩
          case round =>
            obtain ⟨x, hx, rfl, rfl⟩ := hrel
            obtain ⟨b, hb⟩ : ∃ b, b = (List.range x).all fun x => envB V d (l.getD x 0) (l.getD ((x + 1) % k) 0) := ⟨_, rfl⟩
            rw [← hb]
            have HB := Lib.hid hb
            clear hb
            by_cases hlx : x < k
            · have HS : Hid ((List.range (x + 1)).all (fun x => envB V d (l.getD x 0) (l.getD ((x + 1) % k) 0)) = (b && envB V d (l.getD x 0) (l.getD ((x + 1) % k) 0))) := Lib.hid (by rw [List.range_succ, List.all_append, HB.out]; simp)
              obtain ⟨y, hy⟩ : ∃ y, y = (x + 1) % k := ⟨_, rfl⟩
              have hyk : y < k := by rw [hy]; exact Nat.mod_lt _ (by omega)
              have hmod : ((x : Int) + 1) % (k : Int) = (y : Int) := by rw [hy]; simp
              have hcx := HLL.out.2.2.2.2 x _ (natI_get (l := l) (by rw [HLL.out.2.1]; exact hlx))
              have hcy := HLL.out.2.2.2.2 y _ (natI_get (l := l) (by rw [HLL.out.2.1]; exact hyk))
              have hix : l.getD x 0 < n := HLL.out.2.2.1 _ (getD_memN (by rw [HLL.out.2.1]; exact hlx))
              rw [← hy] at HS
              generalize l.getD x 0 = ix at HS hcx hix
              generalize l.getD y 0 = iy at HS hcy
              have l3 : (x : Int) < (k : Int) := by omega
              have l4 : (y : Int) < (k : Int) := by omega
              have l5 : (0 : Int) ≤ (y : Int) := by omega
              clear hy
              cases b
              · have HN := Lib.hid HS.out
                go_wp2_with fail
                go_round
                case rel => exact ⟨x + 1, by omega, by go_num, by rw [HN.out]; rfl⟩
                case measure => simp [intOf]; omega
              · go_wp2_with fail
                refine (r1envies_any A n cap D m capd ix iy V d _ H.out.1 (by omega) hix H.out.2.1 hm (H.out.2.2.1 ix hix).1 (H.out.2.2.1 ix hix).2 (H.out.2.2.2.1.below H4.out.2.2.1) (H.out.2.2.2.2.1.below H4.out.2.2.1)).mono ?_
                rintro e w' ⟨rfl, rfl⟩
                obtain ⟨ev, hev⟩ : ∃ ev, ev = envB V d ix iy := ⟨_, rfl⟩
                rw [← hev] at HS ⊢
                have HN := Lib.hid HS.out
                clear hev
                go_wp2_with fail
                go_round
                case rel => exact ⟨x + 1, by omega, by go_num, by rw [HN.out]; rfl⟩
                case measure => simp [intOf]; omega
            · obtain rfl : x = k := by omega
              have hiC : isC V d l = b := by rw [HB.out]; unfold isC; rw [HLL.out.2.1]
              cases b
              · have HN : Hid (∀ i l, i < j + 1 → L[i]? = some l → isC V d l = false) := Lib.hid (fun i l' hi hl' => by
                  rcases Nat.lt_succ_iff_lt_or_eq.1 hi with h | h
                  · exact HJ.out i l' h hl'
                  · rw [h, HLL.out.1] at hl'
                    injection hl' with hl'
                    rw [← hl']; exact hiC)
                clear hiC
                go_wp2_with fail
                go_round
                case rel => exact ⟨j + 1, by omega, by go_num, HN.out⟩
                case measure => simp [intOf]; omega
              · have hcyc : cycO V d n = some l := by
                  unfold cycO
                  refine findSome_range' (k := x) hk2 (by omega) HR.out.1 ?_
                  rw [← H4.out.2.2.2.2.2]
                  exact find_at HLL.out.1 (fun i y hi hy => HJ.out i y hi hy) hiC
                have hll0 : l = l0 := by
                  have h := H.out.2.2.2.2.2
                  rw [hcyc] at h
                  injection h
                have HF := Lib.hid hll0
                clear hiC hcyc hll0
                go_wp2_with fail
                go_ret
                rw [← HF.out]
                refine ⟨la, c', ?_, ?_, hc2, HLL.out.2.2.2.1, H4.out.2.2.1⟩
                · rw [HLL.out.2.1]; rfl
                · rw [HLL.out.2.1]; exact hc1
        · obtain rfl : j = q := by omega
          have HN : Hid (∀ k', 2 ≤ k' → k' < k + 1 → (perms n k').find? (isC V d) = none) := Lib.hid (fun k' h2 hk' => by
            rcases Nat.lt_succ_iff_lt_or_eq.1 hk' with h | h
            · exact HR.out.1 k' h2 h
            · rw [h, ← H4.out.2.2.2.2.2]
              exact find_no fun i l hi => HJ.out i l (by have := (List.getElem?_eq_some_iff.1 hi).1; have := H4.out.2.2.2.1; omega) hi)
          go_wp2_with fail
          go_roundw
          case rel => exact ⟨k + 1, by omega, by omega, by go_num, HN.out, H4.out.2.2.1⟩
          case measure => simp [intOf]; omega
    · exfalso
      obtain rfl : k = n + 1 := by omega
      have h := H.out.2.2.2.2.2
      unfold cycO at h
      obtain ⟨k', hk', hf⟩ := List.exists_of_findSome?_eq_some h
      have h2 := List.mem_range'_1.1 hk'
      rw [HR.out.1 k' h2.1 (by omega)] at hf
      cases hf

/- The reference's way to resolve a cycle is the same one; lists that are half done. Plain Lean. -/

/-- The first k of a, the rest of b. -/
def mixL (a b : List Int) (k : Nat) : List Int := a.take k ++ b.drop k
theorem mixL_zero (a b : List Int) : mixL a b 0 = b := by simp [mixL]
theorem mixL_all {a b : List Int} {k : Nat} (ha : a.length = k) (hb : b.length = k) : mixL a b k = a := by
  unfold mixL; rw [List.take_of_length_le (by omega), List.drop_of_length_le (by omega), List.append_nil]
theorem mixL_length {a b : List Int} (h : a.length = b.length) (k : Nat) : (mixL a b k).length = b.length := by unfold mixL; simp; omega
theorem mixL_getD {a b : List Int} {k : Nat} (h : a.length = b.length) (hk : k < b.length) : (mixL a b k).getD k 0 = b.getD k 0 := by
  unfold mixL
  rw [List.getD_eq_getElem?_getD, List.getElem?_append_right (by simp; omega), List.getElem?_drop, List.getD_eq_getElem?_getD, List.length_take, Nat.min_eq_left (by omega), Nat.sub_self, Nat.add_zero]
theorem mixL_set {a b : List Int} {k : Nat} (h : a.length = b.length) (hk : k < b.length) : (mixL a b k).set k (a.getD k 0) = mixL a b (k + 1) := by
  unfold mixL
  have hx : a[k]? = some (a.getD k 0) := by rw [List.getD_eq_getElem?_getD, List.getElem?_eq_getElem (by omega)]; rfl
  rw [List.set_append_right _ _ (by simp; omega), List.length_take, Nat.min_eq_left (by omega), Nat.sub_self, List.drop_eq_getElem_cons hk, List.set_cons_zero, take_succ' hx, List.append_assoc]
  rfl

def nextTo (l : List Nat) : Nat → Int → Int
  | 0, p => p
  | x + 1, p => if p = (l.getD ((x + 1) % l.length) 0 : Int) then (l.getD x 0 : Int) else nextTo l x p
def nextL (l : List Nat) (d : List Int) (x : Nat) : List Int := d.map (nextTo l x)
theorem nextL_zero (l : List Nat) (d : List Int) : nextL l d 0 = d := by
  unfold nextL
  conv => rhs; rw [← List.map_id d]
  rfl
theorem nextL_length (l : List Nat) (d : List Int) (x : Nat) : (nextL l d x).length = d.length := by simp [nextL]
theorem nextL_getD {l : List Nat} {d : List Int} {x k : Nat} (h : k < d.length) : (nextL l d x).getD k 0 = nextTo l x (d.getD k 0) := by
  simp [nextL, List.getD_eq_getElem?_getD, h]
theorem nextTo_rot {l : List Nat} (hn : l.Nodup) (p : Int) : nextTo l l.length p = rotP l p := by
  by_cases hc : 0 ≤ p ∧ p.toNat ∈ l
  · have hq := List.idxOf_lt_length_of_mem hc.2
    have hpos : 0 < l.length := by omega
    have hp : p = (l.getD (l.idxOf p.toNat) 0 : Int) := by rw [getD_idx hc.2]; omega
    have hx0 : (l.idxOf p.toNat + l.length - 1) % l.length < l.length := Nat.mod_lt _ hpos
    have key : ∀ x, x ≤ l.length → nextTo l x p = if (l.idxOf p.toNat + l.length - 1) % l.length < x then ((l.getD ((l.idxOf p.toNat + l.length - 1) % l.length) 0 : Nat) : Int) else p := by
      intro x
      induction x with
      | zero => intro _; rw [if_neg (by omega)]; rfl
      | succ x ih =>
        intro hx
        simp only [nextTo]
        have hx1 : (x + 1) % l.length < l.length := Nat.mod_lt _ hpos
        by_cases e : (x + 1) % l.length = l.idxOf p.toNat
        · have e2 : (l.idxOf p.toNat + l.length - 1) % l.length = x := by rw [← e]; exact mod_back (by omega)
          rw [if_pos (by rw [e]; exact hp), e2, if_pos (by omega)]
        · have hne : ¬ p = (l.getD ((x + 1) % l.length) 0 : Int) := by
            intro h
            apply e
            have h2 : p.toNat = l.getD ((x + 1) % l.length) 0 := by omega
            rw [h2, idx_getD hn hx1]
          have e2 : (l.idxOf p.toNat + l.length - 1) % l.length ≠ x := by
            intro h
            apply e
            rw [← h]
            exact mod_fore hq
          rw [if_neg hne, ih (by omega)]
          by_cases h3 : (l.idxOf p.toNat + l.length - 1) % l.length < x
          · rw [if_pos h3, if_pos (by omega)]
          · rw [if_neg h3, if_neg (by omega)]
    rw [key _ (Nat.le_refl _), if_pos hx0]
    unfold rotP
    rw [if_pos hc]
  · have key : ∀ x, x ≤ l.length → nextTo l x p = p := by
      intro x
      induction x with
      | zero => intro _; rfl
      | succ x ih =>
        intro hx
        simp only [nextTo]
        have hx1 : (x + 1) % l.length < l.length := Nat.mod_lt _ (by omega)
        rw [if_neg, ih (by omega)]
        intro h
        apply hc
        have := getD_memN hx1
        refine ⟨by omega, ?_⟩
        have h2 : p.toNat = l.getD ((x + 1) % l.length) 0 := by omega
        rw [h2]; exact this
    rw [key _ (Nat.le_refl _)]
    unfold rotP
    rw [if_neg hc]
theorem nextL_rot {l : List Nat} (hn : l.Nodup) (d : List Int) : nextL l d l.length = rotD l d := by
  unfold nextL rotD
  exact List.map_congr_left fun p _ => nextTo_rot hn p

/-- A number of an owned slice is set, and the slice stays owned. -/
theorem own_put {w : World} {base g n c p : Nat} {s : List Int} (h : w.ownsRow base 3 1 (.slice (some ⟨g, 0, none⟩) n c) n (s.map (Value.int .i64))) (hp : p < n) (y : Int) :
    w.frozen? ⟨g, p, none⟩ = false ∧ w.cell? ⟨g, p, none⟩ = some (.int .i64 (s.getD p 0)) ∧ (w.setCell ⟨g, p, none⟩ (.int .i64 y)).ownsRow base 3 1 (.slice (some ⟨g, 0, none⟩) n c) n ((s.set p y).map (Value.int .i64)) := by
  obtain ⟨h1, h2⟩ := h
  have hn : s.length = n := by simpa using h1
  rcases h2 with ⟨h0, _⟩ | ⟨g', cap, cur, hv, hb, hg, hnc, hm, hcs, htake⟩
  · cases h0
  · injection hv with e1 _ e3
    injection e1 with e1
    injection e1 with e1
    subst e1; subst e3
    have hB : Blk w g 3 cur := hg
    rw [Nat.mul_one] at htake hcs
    refine ⟨hB.frozen p, ?_, by simp [hn], .inr ⟨g, c, cur.setIfInBounds p (.int .i64 y), rfl, hb, hB.set_ p _, hnc, hm, by simpa using hcs, ?_⟩⟩
    · rw [hB.cell, ← Array.getElem?_toList, ← List.getElem?_take_of_lt (j := n) hp, htake, List.getElem?_map, List.getD_eq_getElem?_getD, List.getElem?_eq_getElem (by omega)]
      rfl
    · rw [Nat.mul_one, Array.toList_setIfInBounds, List.take_set, htake, List.map_set]
theorem blk_own {w : World} {base g m : Nat} {s : List Int} (h : Blk w g 3 (arr s)) (hb : base ≤ g) (hl : s.length = m) (hm : m ≤ 1000) : w.ownsRow base 3 1 (.slice (some ⟨g, 0, none⟩) m m) m (s.map (Value.int .i64)) := by
  refine ⟨by simp [hl], .inr ⟨g, m, arr s, rfl, hb, h, Nat.le_refl _, by unfold maxLen; omega, by rw [arr_size, hl, Nat.mul_one], ?_⟩⟩
  rw [Nat.mul_one, List.take_of_length_le (by simp [arr, hl])]
  simp [arr]

/- Append of one element: the slice that was appended to stays what it was. -/

theorem run_keep {T e : TypeId} {z : Value} {bytes : Nat} (ty : STy T e z 1 bytes) (rt : TypeId) {w w' : World} {base : Nat} {v v' : Value} {n : Nat} {xs : List Value} (hown : w.ownsRow base e 1 v n xs)
    {a : Addr} {m c : Nat} {news : List Value} (hl : news.length = m * 1) (hnews : ∀ j u, news[j]? = some u → w.cell? (a.add j) = some u) (h1 : ∀ u ∈ news, u.oneCell' = true)
    (hn : n + m ≤ 1000000) (hr : (Builtin.append_ #[T, T] rt #[v, .slice (some a) m c]).run Try.prog w = .ok v' w') (hown' : w'.ownsRow base e 1 v' (n + m) (xs ++ news)) (hm : 0 < m) : w'.ownsRow base e 1 v n xs := by
  obtain ⟨i0, hi, hz0, hz1, hz2⟩ := info_parts ty.inf
  have hb : (n + m) * i0.bytes ≤ 140737488355328 := by
    have h2 := ty.hby
    rw [hz2]
    calc (n + m) * bytes ≤ 1000000 * 100 := Nat.mul_le_mul (by omega) h2
      _ ≤ _ := by decide
  have hxl : xs.length = n := by have := hown.1; omega
  rcases hown.2 with ⟨rfl, rfl⟩ | ⟨g, cap, cur, rfl, hbg, hg, hnc, hcm, hcs, htake⟩
  · exact ⟨hown.1, .inl ⟨rfl, rfl⟩⟩
  · by_cases hroom : n + m ≤ cap
    · have hfit : n * i0.size + news.length ≤ cur.size := by rw [hz1, hl, hcs]; omega
      have h := run_append_room (P := Try.prog) w T rt e i0 ty.ht hi g n cap cur hg a m c news (by rw [hz1]; exact hl) hnews h1 hroom hfit
      rw [h] at hr
      injection hr with hr _
      rw [← hr] at hown'
      rcases hown'.2 with ⟨h0, _⟩ | ⟨g', cap', cur', hv, hbg', hg', hnc', hcm', hcs', htake'⟩
      · cases h0
      · injection hv with e1 _ e3
        injection e1 with e1
        injection e1 with e1
        subst e1; subst e3
        refine ⟨hown.1, .inr ⟨g, cap, cur', rfl, hbg, hg', hnc, hcm, hcs', ?_⟩⟩
        rw [Nat.mul_one] at htake' ⊢
        have h3 := congrArg (List.take n) htake'
        rwa [List.take_take, Nat.min_eq_left (by omega), List.take_left' hxl] at h3
    · have holds : ∀ j u, xs[j]? = some u → w.cell? ((⟨g, 0, none⟩ : Addr).add j) = some u := hown.cells (g := g) rfl
      have h := run_append_grow (P := Try.prog) w T rt e i0 z ty.ht hi hz0 ⟨g, 0, none⟩ n cap xs (by rw [hz1]; exact hown.1) holds a m c news (by rw [hz1]; exact hl) hnews (by omega) (by omega) (growslice_fits (by omega) hb)
      rw [h] at hr
      injection hr with _ hr
      rw [← hr]
      exact hown.alloc _

theorem step_app1k {T e : TypeId} {z : Value} {bytes : Nat} (ty : STy T e z 1 bytes) {ops : Array Oper} {o : Oper} {a : Act} {K : Act → World → Prop} {Q : Exit → Act → World → Prop} {E : Prop} {w : World}
    (s x : Operand) (ho : o.op = .call { callee := .builtin .append, args := #[s, x], argTypes := #[T, T] }) (hwant : Region.wanted o (yielded ops a.tmps) = true)
    (base : Nat) (A : Option Addr) (n k : Nat) (xs : List Value) (u : Value) (h1 : u.oneCell' = true)
    (hs : a.eval s = .slice A n k) (hown : w.ownsRow base e 1 (.slice A n k) n xs) (hx : a.eval x = .slice (some ⟨w.heap.size, 0, none⟩) 1 1)
    (hn : n ≤ 100000) (hb : base ≤ w.heap.size)
    (h : ∀ (A' : Option Addr) (k' : Nat) (w' : World), w'.ownsRow base e 1 (.slice A' (n + 1) k') (n + 1) (xs ++ [u]) → w.grownBy w' (Value.slice A n k).ownBlock → Below base w w' → n + 1 ≤ k' → k' ≤ 9223372036854775807 → Stay w (.slice A' (n + 1) k') (.slice A n k) → w'.ownsRow base e 1 (.slice A n k) n xs →
      K (a.put o.dst (.slice A' (n + 1) k')) w') : if Region.wanted o (yielded ops a.tmps) = true then Oper.wp Try.prog o a (w.alloc (.cells #[u] e)) K Q else E := by
  rw [if_pos hwant]
  obtain ⟨i0, hi, hz0, hz1, hz2⟩ := info_parts ty.inf
  have hnews : ∀ j x, [u][j]? = some x → (w.alloc (.cells #[u] e)).cell? ((⟨w.heap.size, 0, none⟩ : Addr).add j) = some x := by
    intro j x hx
    exact (At.some2 (Blk.new w e #[u] rfl).at_) j x hx
  have hbytes : (n + 1) * bytes ≤ 140737488355328 := by
    have h2 := ty.hby
    calc (n + 1) * bytes ≤ 1000000 * 100 := Nat.mul_le_mul (by omega) h2
      _ ≤ _ := by decide
  have hone : ∀ x ∈ [u], x.oneCell' = true := by intro x hx; rw [List.mem_singleton.1 hx]; exact h1
  obtain ⟨v', w', hr, hown', hg, _⟩ := run_append_own (P := Try.prog) (w.alloc (.cells #[u] e)) base T o.type e i0 z 1 bytes ty.ht hi hz0 hz1 hz2 ty.hzs ty.hsz (.slice A n k) n xs (hown.alloc _)
    ⟨w.heap.size, 0, none⟩ 1 1 [u] rfl hnews hone (by unfold maxLen; omega) hbytes (by go_size)
  have hst := run_where ty o.type (hown.alloc _) (m := 1) rfl hnews hone (by omega) hr (by omega)
  have hkp := run_keep ty o.type (hown.alloc _) (m := 1) rfl hnews hone (by omega) hr hown' (by omega)
  unfold Oper.wp execOp
  simp only [ho, resolve, invoke, builtin, Sem.run_bind, Sem.run_pure, Result.andThen_ok, List.map_toArray, List.map_cons, List.map_nil, hs, hx, hr]
  obtain ⟨A', k', rfl, hk, hk', _⟩ := own_form hown'
  have hg' : w.grownBy w' (Value.slice A n k).ownBlock :=
    ⟨hg.os, hg.tape, hg.output, Nat.le_trans (by simp) hg.size, fun b hb hne => (hg.block b (Nat.lt_of_lt_of_le hb (by simp)) hne).trans (Below.heap_alloc w _ b hb)⟩
  refine h A' k' w' hown' hg' ?_ hk hk' ?_ hkp
  · refine ⟨hg'.os, hg'.tape, hg'.output, hg'.size, fun b hb' => hg'.block b (by omega) fun he => ?_⟩
    have := (hown.lt b he.symm).1
    omega
  · intro ad' n' k'' he
    rcases hst ad' n' k'' he with h | h
    · exact .inl h
    · exact .inr (Nat.le_trans (by simp) h)

/- Contract: the inner function of circle (package split): cycles of envy that begin with some people. -/

/-- What the search stands on. -/
structure YX where
  w0 : World
  A : Option Addr
  D : Option Addr
  n : Nat
  cap : Nat
  m : Nat
  capd : Nat
  B : Nat
  base : Nat
  V : List (List Int)
  d : List Int
structure YX.ok (X : YX) : Prop where
  hB : X.B = X.w0.heap.size
  hn : 1 ≤ X.n ∧ X.n ≤ 4
  hm : X.m ≤ 1000
  hl : X.V.length = X.n
  hld : X.d.length = X.m
  hr : ∀ i, i < X.n → (rowV X.V i).length = X.m ∧ ∀ x ∈ rowV X.V i, 0 ≤ x ∧ x ≤ 100
  hV : Mat X.w0 X.A X.V
  hD : Ints X.w0 X.D X.d
  hbase : X.base = X.B + 4
def YX.caps (X : YX) : Array Value := #[.pointer (some ⟨X.B + 2, 0, none⟩), .pointer (some ⟨X.B, 0, none⟩), .pointer (some ⟨X.B + 1, 0, none⟩), .pointer (some ⟨X.B + 3, 0, none⟩)]
structure YX.fix (X : YX) (w : World) : Prop where
  bv : Blk w X.B 61 #[.slice X.A X.n X.cap]
  bd : Blk w (X.B + 1) 64 #[.slice X.D X.m X.capd]
  bg : Blk w (X.B + 3) 34 #[.func (.func 98) #[] X.caps]
  bel : Below X.B X.w0 w
  fnd : ∃ fv, Blk w (X.B + 2) 23 #[fv]
/-- What was found. -/
def YX.found (X : YX) (l : List Nat) (w : World) : Prop := ∃ g k, Blk w (X.B + 2) 23 #[.slice (some ⟨g, 0, none⟩) l.length k] ∧ l.length ≤ k ∧ k ≤ 9223372036854775807 ∧ Ints w (some ⟨g, 0, none⟩) (natI l) ∧ X.B ≤ g
theorem YX.fix.size {X : YX} {w : World} (h : X.fix w) : X.B + 4 ≤ w.heap.size := by have := h.bg.lt; omega
theorem YX.fix.kept {X : YX} {w w' : World} {gc : Nat} (h : X.fix w) (hk : Kept w.heap.size [X.B + 2, gc] w w') (hg : X.B + 4 ≤ gc) (hf : ∃ fv, Blk w' (X.B + 2) 23 #[fv]) : X.fix w' := by
  have hs := h.size
  refine ⟨h.bv.kept hk (by omega) (by simp; omega), h.bd.kept hk (by omega) (by simp; omega), h.bg.kept hk (by omega) (by simp; omega), ?_, hf⟩
  exact ⟨hk.os.trans h.bel.os, hk.tape.trans h.bel.tape, hk.output.trans h.bel.output, Nat.le_trans h.bel.size hk.size, fun k hkB => (hk.block k (by omega) (by simp; omega)).trans (h.bel.block k hkB)⟩
/-- What the inner function leaves. -/
def YX.post (X : YX) (r : Nat) (c : List Nat) (gc kc : Nat) (w : World) (e : Ending) (w' : World) : Prop :=
  e = .returned (.bool (growS X.V X.d X.n r c).isSome) ∧ X.fix w' ∧ w'.ownsRow X.base 3 1 (.slice (some ⟨gc, 0, none⟩) c.length kc) c.length ((natI c).map (Value.int .i64)) ∧ Kept w.heap.size [X.B + 2, gc] w w' ∧ ∀ l, growS X.V X.d X.n r c = some l → X.found l w'

theorem own_setCell' {w : World} {base e size n : Nat} {v : Value} {xs : List Value} (h : w.ownsRow base e size v n xs) {p : Addr} (hp : p.block < base) (u : Value) : (w.setCell p u).ownsRow base e size v n xs := by
  obtain ⟨h1, h2⟩ := h
  refine ⟨h1, ?_⟩
  rcases h2 with h2 | ⟨g, cap, cur, hv, a1, a2, a3⟩
  · exact .inl h2
  · exact .inr ⟨g, cap, cur, hv, a1, (Below.heap_setCell w p u g (by omega)).trans a2, a3⟩
theorem hk3cell {w w2 : World} (hb : Below w.heap.size w w2) {g o b : Nat} (hg : g < w.heap.size) (hne : g ≠ b) {u : Value} : (w2.setCell ⟨b, 0, none⟩ u).cell? ⟨g, o, none⟩ = w.cell? ⟨g, o, none⟩ := by
  rw [World.cell?_of_block (w := w2) (Below.heap_setCell w2 ⟨b, 0, none⟩ u g (by exact hne))]
  exact hb.cell hg

set_option maxRecDepth 100000 in
set_option maxHeartbeats 3200000 in
theorem grow_leaf (X : YX) (hx : X.ok) (c : List Nat) (gc kc : Nat) (w : World) (hf : X.fix w) (hc : 1 ≤ c.length ∧ c.length ≤ 4) (hcn : ∀ x ∈ c, x < X.n)
    (hown : w.ownsRow X.base 3 1 (.slice (some ⟨gc, 0, none⟩) c.length kc) c.length ((natI c).map (Value.int .i64))) :
    Calls Try.prog 98 #[.slice (some ⟨gc, 0, none⟩) c.length kc, .int .i64 c.length, .pointer (some ⟨X.B + 2, 0, none⟩), .pointer (some ⟨X.B, 0, none⟩), .pointer (some ⟨X.B + 1, 0, none⟩), .pointer (some ⟨X.B + 3, 0, none⟩)] w (X.post 0 c gc kc w) := by
  obtain ⟨lk, hlk⟩ : ∃ lk, lk = c.length := ⟨_, rfl⟩
  have hlast : (natI c)[lk - 1]? = some (c.getD (lk - 1) 0 : Int) := natI_get (by omega)
  have hfirst : (natI c)[0]? = some (c.getD 0 0 : Int) := natI_get (by omega)
  have hln : c.getD (lk - 1) 0 < X.n := hcn _ (getD_memN (by omega))
  have hne : c ≠ [] := by rintro rfl; simp at hc
  have hgr : growS X.V X.d X.n 0 c = if envB X.V X.d (c.getD (lk - 1) 0) (c.getD 0 0) then some c else none := by
    rw [growS, last_getD c hne, head_getD, hlk]
  obtain ⟨g', hge, hgb, hgl⟩ := own_some hown (by omega)
  injection hge with hge
  injection hge with hge
  subst hge
  rw [← hlk] at hown hc ⊢
  have hI : Ints w (some ⟨gc, 0, none⟩) (natI c) := At.of_own hown
  have hcl : w.cell? ⟨gc, lk - 1, none⟩ = some (.int .i64 (c.getD (lk - 1) 0 : Int)) := by
    have h := At.some2 hI (lk - 1) (.int .i64 (c.getD (lk - 1) 0 : Int)) (by rw [List.getElem?_map, hlast]; rfl)
    have e : (⟨gc, 0, none⟩ : Addr).add (lk - 1) = ⟨gc, lk - 1, none⟩ := by unfold Addr.add; split <;> simp_all
    rwa [e] at h
  have hcf : w.cell? ⟨gc, 0, none⟩ = some (.int .i64 (c.getD 0 0 : Int)) := At.some2 hI 0 (.int .i64 (c.getD 0 0 : Int)) (by rw [List.getElem?_map, hfirst]; rfl)
  have e1 : ((lk : Int) - 1) = ((lk - 1 : Nat) : Int) := by omega
  have l1 : ((lk - 1 : Nat) : Int) < (lk : Int) := by omega
  have hbb : ((lk : Int) == (lk : Int)) = true := by simp
  have H := Lib.hid (And.intro hx (And.intro hf (And.intro hown (And.intro hI (And.intro hlk hgr)))))
  have hfs := hf.size
  have hbase := hx.hbase
  clear hx hf hown hI hlk hlast hfirst hcn hne hgr
  generalize c.getD (lk - 1) 0 = la at *
  generalize c.getD 0 0 = fi at *
  have HCF := Lib.hid hcf
  clear hcf
  go_enter Try.func98, Try.ntmps98
  go_wp2_with fail
  refine (clone_any (some ⟨gc, 0, none⟩) lk kc (natI c) _ (by rw [natI_length]; exact H.out.2.2.2.2.1.symm) (by omega) H.out.2.2.2.1).mono ?_
  rintro e w2 ⟨A2, c2, rfl, hown2, hb2⟩
  obtain ⟨g2, rfl, hg2, _⟩ := own_some hown2 (by omega)
  obtain ⟨_, _, he2, hc21, hc22, _⟩ := own_form hown2
  injection he2 with e4 e5 e6
  subst e6
  clear e4 e5
  obtain ⟨fv, hfv⟩ := H.out.2.1.fnd
  have hfv2 := hfv.below hb2 (by omega)
  obtain ⟨a1, b1⟩ := hfv2.at1
  have hI2 : Ints w2 (some ⟨g2, 0, none⟩) (natI c) := At.of_own hown2
  have hk3 : Kept w.heap.size [X.B + 2, gc] w (w2.setCell ⟨X.B + 2, 0, none⟩ (.slice (some ⟨g2, 0, none⟩) lk c2)) := (Kept.of_below hb2 _).setCell (.inl (by simp)) _
  have hfd3 : X.found c (w2.setCell ⟨X.B + 2, 0, none⟩ (.slice (some ⟨g2, 0, none⟩) lk c2)) := by
    refine ⟨g2, c2, ?_, by rw [← H.out.2.2.2.2.1]; exact hc21, hc22, ints_far hI2 (fun ad ha => by injection ha with ha; subst ha; show g2 ≠ X.B + 2; omega) _, by omega⟩
    rw [← H.out.2.2.2.2.1]
    exact hfv2.set_ 0 _
  have hf3 : X.fix (w2.setCell ⟨X.B + 2, 0, none⟩ (.slice (some ⟨g2, 0, none⟩) lk c2)) := H.out.2.1.kept hk3 (by omega) ⟨.slice (some ⟨g2, 0, none⟩) lk c2, hfv2.set_ 0 _⟩
  have hown3 : (w2.setCell ⟨X.B + 2, 0, none⟩ (.slice (some ⟨g2, 0, none⟩) lk c2)).ownsRow X.base 3 1 (.slice (some ⟨gc, 0, none⟩) lk kc) lk ((natI c).map (Value.int .i64)) := own_setCell' (own_below H.out.2.2.1 hb2) (by show X.B + 2 < X.base; omega) _
  have hcf3 : (w2.setCell ⟨X.B + 2, 0, none⟩ (.slice (some ⟨g2, 0, none⟩) lk c2)).cell? ⟨gc, 0, none⟩ = some (.int .i64 (fi : Int)) := by
    rw [hk3cell hb2 hgl (show gc ≠ X.B + 2 by omega)]; exact HCF.out
  have H3 := Lib.hid (And.intro hk3 (And.intro hfd3 (And.intro hf3 hown3)))
  clear hfv hfv2 hI2 hown2 hk3 hfd3 hf3 hown3
  go_wp2_with fail
  clear a1 b1
  generalize w2.setCell ⟨X.B + 2, 0, none⟩ (.slice (some ⟨g2, 0, none⟩) lk c2) = w3 at H3 hcf3 ⊢
  obtain ⟨a1, _⟩ := H3.out.2.2.1.bv.at1
  obtain ⟨a2, _⟩ := H3.out.2.2.1.bd.at1
  have hq : ∀ w8, Mat w8 X.A X.V → Ints w8 X.D X.d → Calls Try.prog 95 #[.slice X.A X.n X.cap, .slice X.D X.m X.capd, .int .i64 la, .int .i64 fi] w8 fun e w' => e = .returned (.bool (envB X.V X.d la fi)) ∧ w' = w8 := fun w8 hV hD =>
    (senvies_any X.A X.n X.cap X.D X.m X.capd la fi X.V X.d w8 H.out.1.hl (by have := H.out.1.hn; omega) hln H.out.1.hld H.out.1.hm (H.out.1.hr la hln).1 (H.out.1.hr la hln).2 hV hD).mono fun _ _ ⟨a, b⟩ => ⟨a, b.symm⟩
  have HQ := Lib.hid hq
  have hbel0 : Below X.w0.heap.size X.w0 w3 := by rw [← H.out.1.hB]; exact H3.out.2.2.1.bel
  have HM := Lib.hid (And.intro (H.out.1.hV.below hbel0) (H.out.1.hD.below hbel0))
  have l2 : (0 : Int) < (lk : Int) := by omega
  clear hq hbel0
  go_quiet ((go_at_call 95; exact Calls.quiet_of_same (HQ.out _ HM.out.1 HM.out.2)))
  go_wp2_with fail
  go_ret
  refine ⟨?_, ?_, ?_, ?_, ?_⟩
  · rw [H.out.2.2.2.2.2]; cases envB X.V X.d la fi <;> rfl
  · have h := H3.out.2.2.1
    exact ⟨h.bv, h.bd, h.bg, below_drewN h.bel _, h.fnd⟩
  · rw [← H.out.2.2.2.2.1]; exact H3.out.2.2.2
  · exact H3.out.1.drewN _
  · intro l hl
    rw [H.out.2.2.2.2.2] at hl
    split at hl
    · injection hl with hl
      rw [← hl]; exact H3.out.2.1
    · cases hl

/- Contract: the inner function of circle (package split), whole. -/

/-- What holds at the head of a round: nothing was found yet. -/
def YX.rel (X : YX) (r : Nat) (c : List Nat) (gc kc : Nat) (w : World) (j : Nat) (wr : World) : Prop :=
  (∀ i, i < j → (if !c.contains i && envB X.V X.d (c.getLastD 0) i then growS X.V X.d X.n r (c ++ [i]) else none) = none) ∧ X.fix wr ∧ wr.ownsRow X.base 3 1 (.slice (some ⟨gc, 0, none⟩) c.length kc) c.length ((natI c).map (Value.int .i64)) ∧ Kept w.heap.size [X.B + 2, gc] w wr
theorem range_findSome_none {α : Type} {f : Nat → Option α} {n : Nat} (h : ∀ j, j < n → f j = none) : (List.range n).findSome? f = none := by
  rw [List.findSome?_eq_none_iff]; exact fun j hj => h j (List.mem_range.1 hj)
theorem range_findSome_some {α : Type} {f : Nat → Option α} {n k : Nat} {x : α} (hk : k < n) (h : ∀ j, j < k → f j = none) (hx : f k = some x) : (List.range n).findSome? f = some x := by
  rw [List.range_eq_range']
  exact findSome_range' (Nat.zero_le _) (by omega) (fun j _ hj => h j hj) hx

theorem YX.fix.below {X : YX} {w w' : World} (h : X.fix w) (hb : Below X.base w w') (hbase : X.base = X.B + 4) : X.fix w' := by
  obtain ⟨fv, hf⟩ := h.fnd
  exact ⟨h.bv.below hb (by omega), h.bd.below hb (by omega), h.bg.below hb (by omega), h.bel.trans (hb.mono (by omega)), fv, hf.below hb (by omega)⟩
theorem YX.fix.drew {X : YX} {w : World} (h : X.fix w) : X.fix w.drew := ⟨h.bv, h.bd, h.bg, h.bel.drew, h.fnd⟩
theorem own_prefix {w w9 : World} {base g n k1 k2 : Nat} {xs : List Value} {u : Value} (h1 : w.ownsRow base 3 1 (.slice (some ⟨g, 0, none⟩) (n + 1) k1) (n + 1) (xs ++ [u])) (h2 : w.ownsRow base 3 1 (.slice (some ⟨g, 0, none⟩) n k2) n xs)
    (h9 : w9.ownsRow base 3 1 (.slice (some ⟨g, 0, none⟩) (n + 1) k1) (n + 1) (xs ++ [u])) : w9.ownsRow base 3 1 (.slice (some ⟨g, 0, none⟩) n k2) n xs := by
  have hl : xs.length = n := by have := h2.1; omega
  rcases h1.2 with ⟨h0, _⟩ | ⟨g1, c1, cur1, hv1, _, hg1, _, _, hs1, _⟩
  · cases h0
  rcases h2.2 with ⟨h0, _⟩ | ⟨g2, c2, cur2, hv2, hb2, hg2, hnc2, hm2, hs2, _⟩
  · cases h0
  rcases h9.2 with ⟨h0, _⟩ | ⟨g9, c9, cur9, hv9, _, hg9, _, _, hs9, ht9⟩
  · cases h0
  injection hv1 with e1 _ e1c
  injection e1 with e1
  injection e1 with e1
  injection hv2 with e2 _ e2c
  injection e2 with e2
  injection e2 with e2
  injection hv9 with e9 _ e9c
  injection e9 with e9
  injection e9 with e9
  subst e1 e2 e9 e1c e2c e9c
  rw [hg1] at hg2
  injection hg2 with hg2
  injection hg2 with hg2
  have hcc : k1 = k2 := by rw [hg2] at hs1; omega
  subst hcc
  refine ⟨h2.1, .inr ⟨g, k1, cur9, rfl, hb2, hg9, hnc2, hm2, hs9, ?_⟩⟩
  rw [Nat.mul_one] at ht9 ⊢
  have h3 := congrArg (List.take n) ht9
  rwa [List.take_take, Nat.min_eq_left (by omega), List.take_left' hl] at h3
/-- What a call further down leaves of memory. -/
theorem grow_mem {X : YX} {w wr w7 w9 : World} {gc lk kc g7 k7 : Nat} {xs : List Value} {u : Value} (hk : Kept w.heap.size [X.B + 2, gc] w wr) (hgc : gc < w.heap.size) (hgB : gc ≠ X.B + 2) (hg : wr.grownBy w7 (some gc))
    (hst : Stay wr (.slice (some ⟨g7, 0, none⟩) (lk + 1) k7) (.slice (some ⟨gc, 0, none⟩) lk kc)) (hnew : w7.ownsRow X.base 3 1 (.slice (some ⟨g7, 0, none⟩) (lk + 1) k7) (lk + 1) (xs ++ [u])) (hkeep : w7.ownsRow X.base 3 1 (.slice (some ⟨gc, 0, none⟩) lk kc) lk xs)
    (hk9 : Kept w7.heap.size [X.B + 2, g7] w7 w9) (hnew9 : w9.ownsRow X.base 3 1 (.slice (some ⟨g7, 0, none⟩) (lk + 1) k7) (lk + 1) (xs ++ [u])) :
    w9.ownsRow X.base 3 1 (.slice (some ⟨gc, 0, none⟩) lk kc) lk xs ∧ Kept w.heap.size [X.B + 2, gc] w w9 := by
  have hs1 := hk.size
  have hs2 := hg.size
  have hcase : g7 = gc ∨ wr.heap.size ≤ g7 := by
    rcases hst _ _ _ rfl with ⟨n0, k0, h⟩ | h
    · injection h with h
      injection h with h
      injection h with h
      exact .inl h.symm
    · exact .inr h
  constructor
  · rcases hcase with rfl | h
    · exact own_prefix hnew hkeep hnew9
    · obtain ⟨h1, h2⟩ := hkeep
      refine ⟨h1, ?_⟩
      rcases h2 with h2 | ⟨g, c, cur, hv, a1, a2, a3⟩
      · exact .inl h2
      · injection hv with e1 e2 e3
        injection e1 with e1
        injection e1 with e1
        subst e1 e3
        exact .inr ⟨gc, kc, cur, rfl, a1, (hk9.block gc (by omega) (by simp; omega)).trans a2, a3⟩
  · refine (hk.grown hg hs1 (fun k hk => by injection hk with hk; exact .inl (by simp [hk]))).trans (hk9.mono (by omega) fun x hx => ?_)
    simp only [List.mem_cons, List.mem_nil_iff, or_false] at hx ⊢
    rcases hx with hx | hx
    · exact .inl (.inl hx)
    · rcases hcase with h | h
      · exact .inl (.inr (by omega))
      · exact .inr (by omega)

set_option maxRecDepth 100000 in
set_option maxHeartbeats 6400000 in
theorem grow_any (X : YX) (hx : X.ok) (r : Nat) : ∀ (c : List Nat) (gc kc long : Nat) (w : World), c.length + r = long → long ≤ 4 → X.fix w → 1 ≤ c.length → (∀ x ∈ c, x < X.n) →
    w.ownsRow X.base 3 1 (.slice (some ⟨gc, 0, none⟩) c.length kc) c.length ((natI c).map (Value.int .i64)) →
    Calls Try.prog 98 #[.slice (some ⟨gc, 0, none⟩) c.length kc, .int .i64 long, .pointer (some ⟨X.B + 2, 0, none⟩), .pointer (some ⟨X.B, 0, none⟩), .pointer (some ⟨X.B + 1, 0, none⟩), .pointer (some ⟨X.B + 3, 0, none⟩)] w (X.post r c gc kc w) := by
  induction r with
  | zero =>
    intro c gc kc long w hcl hl4 hf hc1 hcn hown
    obtain rfl : c.length = long := by omega
    exact grow_leaf X hx c gc kc w hf ⟨hc1, by omega⟩ hcn hown
  | succ r ih =>
    intro c gc kc long w hcl hl4 hf hc1 hcn hown
    have IH := Lib.hid ih
    obtain ⟨lk, hlk⟩ : ∃ lk, lk = c.length := ⟨_, rfl⟩
    have hlast : (natI c)[lk - 1]? = some (c.getD (lk - 1) 0 : Int) := natI_get (by omega)
    have hln : c.getD (lk - 1) 0 < X.n := hcn _ (getD_memN (by omega))
    have hne : c ≠ [] := by rintro rfl; simp at hc1
    have hld : c.getLastD 0 = c.getD (lk - 1) 0 := by rw [last_getD c hne, hlk]
    obtain ⟨g', hge, hgb, hgl⟩ := own_some hown (by omega)
    injection hge with hge
    injection hge with hge
    subst hge
    have hI : Ints w (some ⟨gc, 0, none⟩) (natI c) := At.of_own hown
    have hcl2 : w.cell? ⟨gc, lk - 1, none⟩ = some (.int .i64 (c.getD (lk - 1) 0 : Int)) := by
      have h := At.some2 hI (lk - 1) (.int .i64 (c.getD (lk - 1) 0 : Int)) (by rw [List.getElem?_map, hlast]; rfl)
      have e : (⟨gc, 0, none⟩ : Addr).add (lk - 1) = ⟨gc, lk - 1, none⟩ := by unfold Addr.add; split <;> simp_all
      rwa [e] at h
    have hown' := hown
    rw [← hlk] at hown' hcl hc1 ⊢
    have e1 : ((lk : Int) - 1) = ((lk - 1 : Nat) : Int) := by omega
    have l1 : ((lk - 1 : Nat) : Int) < (lk : Int) := by omega
    have hbb : ((lk : Int) == (long : Int)) = false := by rw [beq_eq_false_iff_ne]; omega
    have H := Lib.hid (And.intro hx (And.intro hf (And.intro hown (And.intro hlk (And.intro hcn (And.intro hln hld))))))
    have hfs := hf.size
    have hbase := hx.hbase
    have hn4 := hx.hn
    obtain ⟨a1, _⟩ := hf.bv.at1
    clear hx hf hown hown' hI hlast hcn hne ih hln hld hlk
    have HLA : Hid (c.getD (lk - 1) 0 = c.getD (lk - 1) 0) := Lib.hid rfl
    obtain ⟨la, hla⟩ : ∃ la, la = c.getD (lk - 1) 0 := ⟨_, rfl⟩
    rw [← hla] at hcl2
    have HL := Lib.hid hla
    clear HLA hla
    go_enter Try.func98, Try.ntmps98
    go_wp2_with fail
    clear a1 hcl2
    go_loopw [32] (fun jv wr => ∃ j : Nat, j ≤ X.n ∧ jv = .int .i64 j ∧ X.rel r c gc kc w j wr) (fun jv _ => X.n - (intOf jv).toNat)
    case atStart => exact ⟨0, Nat.zero_le _, rfl, fun i hi => by omega, H.out.2.1, H.out.2.2.1, Kept.refl _ _ _⟩
    case round =>
      obtain ⟨j, hj, rfl, hno, hf, hown, hk⟩ := hrel
      have hwr := hk.size
      have HR := Lib.hid (And.intro hno (And.intro hf (And.intro hown hk)))
      clear hno hf hown hk
      by_cases hlt : j < X.n
      · have l2 : (j : Int) < (X.n : Int) := by omega
        obtain ⟨a1, _⟩ := HR.out.2.1.bv.at1
        obtain ⟨a2, _⟩ := HR.out.2.1.bd.at1
        obtain ⟨a3, _⟩ := HR.out.2.1.bg.at1
        have hcont : ∀ w8, w8.ownsRow X.base 3 1 (.slice (some ⟨gc, 0, none⟩) lk kc) lk ((natI c).map (Value.int .i64)) → Calls Try.prog 99 #[.slice (some ⟨gc, 0, none⟩) lk kc, .int .i64 j] w8 fun e w' => e = .returned (.bool (c.contains j)) ∧ w' = w8 := fun w8 h8 =>
          (contains_any (some ⟨gc, 0, none⟩) lk kc (natI c) j w8 (by rw [natI_length]; exact H.out.2.2.2.1.symm) (by omega) (At.of_own h8)).mono fun _ _ ⟨a, b⟩ => ⟨by rw [a, has_natI], b.symm⟩
        have HCT := Lib.hid hcont
        have hq : ∀ w8, Mat w8 X.A X.V → Ints w8 X.D X.d → Calls Try.prog 95 #[.slice X.A X.n X.cap, .slice X.D X.m X.capd, .int .i64 la, .int .i64 j] w8 fun e w' => e = .returned (.bool (envB X.V X.d la j)) ∧ w' = w8 := fun w8 hV hD =>
          (senvies_any X.A X.n X.cap X.D X.m X.capd la j X.V X.d w8 H.out.1.hl (by have := H.out.1.hn; omega) (by rw [HL.out]; exact H.out.2.2.2.2.2.1) H.out.1.hld H.out.1.hm (H.out.1.hr la (by rw [HL.out]; exact H.out.2.2.2.2.2.1)).1 (H.out.1.hr la (by rw [HL.out]; exact H.out.2.2.2.2.2.1)).2 hV hD).mono fun _ _ ⟨a, b⟩ => ⟨a, b.symm⟩
        have HQ := Lib.hid hq
        have hownr := HR.out.2.2.1
        rw [← H.out.2.2.2.1] at hownr
        have hbel0 : Below X.w0.heap.size X.w0 wr := by rw [← H.out.1.hB]; exact HR.out.2.1.bel
        have HM := Lib.hid (And.intro (H.out.1.hV.below hbel0) (And.intro (H.out.1.hD.below hbel0) hownr))
        clear hcont hq hownr hbel0
        have hstay : ∀ w8 nd, w8 = wr.drewN nd → (if !c.contains j && envB X.V X.d (c.getLastD 0) j then growS X.V X.d X.n r (c ++ [j]) else none) = none → X.rel r c gc kc w (j + 1) w8 := by
          intro w8 nd e hnone
          subst e
          refine ⟨fun i hi => ?_, ?_, HR.out.2.2.1, HR.out.2.2.2.drewN _⟩
          · rcases Nat.lt_succ_iff_lt_or_eq.1 hi with h | h
            · exact HR.out.1 i h
            · rw [h]; exact hnone
          · have h := HR.out.2.1
            exact ⟨h.bv, h.bd, h.bg, below_drewN h.bel _, h.fnd⟩
        have HST := Lib.hid hstay
        clear hstay
        cases hct : c.contains j
        · cases hev : envB X.V X.d la j
          · have HN : Hid ((if !c.contains j && envB X.V X.d (c.getLastD 0) j then growS X.V X.d X.n r (c ++ [j]) else none) = none) := Lib.hid (by rw [H.out.2.2.2.2.2.2, ← HL.out, hev]; simp)
            have HV2 := Lib.hid (And.intro hct hev)
            rw [hct] at HCT
            rw [hev] at HQ
            clear hct hev a3
            go_wp2_with fail
            go_quiet ((first | (go_at_call 99; exact Calls.quiet_of_same (HCT.out _ HM.out.2.2)) | (go_at_call 95; exact Calls.quiet_of_same (HQ.out _ HM.out.1 HM.out.2.1))))
            go_wp2_with fail
            go_roundw
            case rel => exact ⟨j + 1, by omega, by go_num, HST.out _ _ rfl HN.out⟩
            case measure => simp [intOf]; omega
          · have HV2 := Lib.hid (And.intro hct hev)
            rw [hct] at HCT
            rw [hev] at HQ
            have hrec : ∀ (g7 k7 : Nat) (w7 : World), X.fix w7 → w7.ownsRow X.base 3 1 (.slice (some ⟨g7, 0, none⟩) (lk + 1) k7) (lk + 1) ((natI c).map (Value.int .i64) ++ [.int .i64 (j : Int)]) →
                Calls Try.prog 98 #[.slice (some ⟨g7, 0, none⟩) (lk + 1) k7, .int .i64 long, .pointer (some ⟨X.B + 2, 0, none⟩), .pointer (some ⟨X.B, 0, none⟩), .pointer (some ⟨X.B + 1, 0, none⟩), .pointer (some ⟨X.B + 3, 0, none⟩)] w7 (X.post r (c ++ [j]) g7 k7 w7) := by
              intro g7 k7 w7 hf7 hown7
              have hlen : (c ++ [j]).length = lk + 1 := by rw [List.length_append, ← H.out.2.2.2.1]; rfl
              have e : (natI (c ++ [j])).map (Value.int .i64) = (natI c).map (Value.int .i64) ++ [.int .i64 (j : Int)] := by simp [natI]
              have h := IH.out (c ++ [j]) g7 k7 long w7 (by rw [hlen]; omega) hl4 hf7 (by rw [hlen]; omega) (by
                intro x hx
                rcases List.mem_append.1 hx with h | h
                · exact H.out.2.2.2.2.1 x h
                · simp at h; omega) (by rw [hlen, e]; exact hown7)
              rw [hlen] at h
              exact h
            have HREC := Lib.hid hrec
            have hbs : X.base ≤ wr.drew.heap.size := by have := HR.out.2.1.size; show X.base ≤ wr.heap.size; omega
            have HFB : Hid (∀ w7, Below X.base wr.drew w7 → X.fix w7) := Lib.hid fun w7 hb => HR.out.2.1.drew.below hb hbase
            have hlk4 : lk ≤ 4 := by omega
            have hownd : wr.drew.ownsRow X.base 3 1 (.slice (some ⟨gc, 0, none⟩) lk kc) lk ((natI c).map (Value.int .i64)) := HM.out.2.2.drew
            have HOD := Lib.hid hownd
            unfold YX.caps at a3
            clear hct hev hrec hownd
            go_wp2_with fail
            go_region_held3 (fun w' => w'.cell? ⟨X.B, 0, none⟩ = some (.slice X.A X.n X.cap) ∧ w'.cell? ⟨X.B + 1, 0, none⟩ = some (.slice X.D X.m X.capd) ∧ w'.cell? ⟨X.B + 3, 0, none⟩ = some (.func (.func 98) #[] #[.pointer (some ⟨X.B + 2, 0, none⟩), .pointer (some ⟨X.B, 0, none⟩), .pointer (some ⟨X.B + 1, 0, none⟩), .pointer (some ⟨X.B + 3, 0, none⟩)]))
              (first | go_keep | exact ⟨hfx9.bv.at1.1, hfx9.bd.at1.1, hfx9.bg.at1.1⟩ | exact ⟨hfx7.bv.at1.1, hfx7.bd.at1.1, hfx7.bg.at1.1⟩)
              (first
                | (go_at_call 99; refine (HCT.out wr.drew HOD.out).mono ?_; rintro e w' ⟨rfl, rfl⟩)
                | (go_at_call 95; refine (HQ.out wr.drew HM.out.1 HM.out.2.1).mono ?_; rintro e w' ⟨rfl, rfl⟩)
                | (refine step_app1k (w := wr.drew) sty_int (.tmp 48) (.tmp 50) (by rfl) (by rfl) X.base (some ⟨gc, 0, none⟩) lk kc _ (.int .i64 (j : Int)) (by rfl) (by rfl) HOD.out (by rfl) (by omega) hbs ?_; intro A7 k7 w7 hown7 hg7 hbl7 hk71 hk72 hst7 hkeep7; obtain ⟨g7, rfl, hg7b, hg7l⟩ := own_some hown7 (by omega); have hfx7 := HFB.out w7 hbl7)
                | (go_at_call 98; refine (HREC.out _ _ _ hfx7 hown7).mono ?_; rintro e w9 ⟨rfl, hfx9, hown9, hk9, hfd9⟩))
            have hlen : (c ++ [j]).length = lk + 1 := by rw [List.length_append, ← H.out.2.2.2.1]; rfl
            have e : (natI (c ++ [j])).map (Value.int .i64) = (natI c).map (Value.int .i64) ++ [.int .i64 (j : Int)] := by simp [natI]
            rw [hlen, e] at hown9
            have hmem := grow_mem (HR.out.2.2.2.drew) (by omega) (by omega) hg7 hst7 hown7 hkeep7 hk9 hown9
            have HW := Lib.hid (And.intro hfx9 (And.intro hmem.1 (And.intro hmem.2 hfd9)))
            have hgs : (if !c.contains j && envB X.V X.d (c.getLastD 0) j then growS X.V X.d X.n r (c ++ [j]) else none) = growS X.V X.d X.n r (c ++ [j]) := by rw [HV2.out.1, H.out.2.2.2.2.2.2, ← HL.out, HV2.out.2]; rfl
            have HGS := Lib.hid hgs
            clear hlen e hown9 hmem hg7 hst7 hown7 hkeep7 hk9 hfd9 hfx9 hfx7 hgs
            cases hres : growS X.V X.d X.n r (c ++ [j]) with
            | none =>
              have HRES := Lib.hid hres
              clear hres
              simp only [Option.isSome]
              go_wp2_with fail
              go_roundw
              case rel =>
                refine ⟨j + 1, by omega, by go_num, fun i hi => ?_, HW.out.1, by rw [← H.out.2.2.2.1]; exact HW.out.2.1, HW.out.2.2.1⟩
                rcases Nat.lt_succ_iff_lt_or_eq.1 hi with h | h
                · exact HR.out.1 i h
                · rw [h, HGS.out]; exact HRES.out
              case measure => simp [intOf]; omega
            | some l =>
              have HF : Hid (growS X.V X.d X.n (r + 1) c = some l) := Lib.hid (by rw [growS]; exact range_findSome_some hlt HR.out.1 (by rw [HGS.out]; exact hres))
              have HRES := Lib.hid hres
              clear hres
              simp only [Option.isSome]
              go_wp2_with fail
              go_ret
              refine ⟨by rw [HF.out]; rfl, HW.out.1, by rw [← H.out.2.2.2.1]; exact HW.out.2.1, HW.out.2.2.1, fun l' hl' => ?_⟩
              rw [HF.out] at hl'
              injection hl' with hl'
              rw [← hl']
              exact HW.out.2.2.2 l HRES.out
        · have HN : Hid ((if !c.contains j && envB X.V X.d (c.getLastD 0) j then growS X.V X.d X.n r (c ++ [j]) else none) = none) := Lib.hid (by rw [hct]; simp)
          rw [hct] at HCT
          clear hct a1 a2 a3
          go_wp2_with fail
          go_quiet ((go_at_call 99; exact Calls.quiet_of_same (HCT.out _ HM.out.2.2)))
          go_wp2_with fail
          go_roundw
          case rel => exact ⟨j + 1, by omega, by go_num, HST.out _ _ rfl HN.out⟩
          case measure => simp [intOf]; omega
      · obtain rfl : j = X.n := by omega
        have HF : Hid (growS X.V X.d X.n (r + 1) c = none) := Lib.hid (by rw [growS]; exact range_findSome_none HR.out.1)
        go_wp2_with fail
        go_ret
        refine ⟨by rw [HF.out]; rfl, HR.out.2.1, HR.out.2.2.1, HR.out.2.2.2, fun l hl => ?_⟩
        rw [HF.out] at hl; cases hl
end Go.Proofs.Ytkljambjdiblkaa
