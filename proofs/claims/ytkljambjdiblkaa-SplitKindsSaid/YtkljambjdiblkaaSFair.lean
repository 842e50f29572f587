/- Contracts: Envy, up and part of package split. -/
import Derived.Test.YtkljambjdiblkaaSEnvy
import Derived.Test.YtkljambjdiblkaaSDivision
import Derived.Test.YtkljambjdiblkaaSValid
namespace Go.Proofs.Ytkljambjdiblkaa
open Go.RowKit

theorem sum_take' {l : List Int} {k : Nat} {x : Int} (h : l[k]? = some x) : (l.take (k + 1)).sum = (l.take k).sum + x := by
  rw [List.take_add_one, h, List.sum_append]; simp
theorem sum_bd' {l : List Int} (h : ∀ x ∈ l, 0 ≤ x ∧ x ≤ 100) : 0 ≤ l.sum ∧ l.sum ≤ 100 * l.length := by
  induction l with
  | nil => simp
  | cons y l ih =>
    have h1 := h y (List.mem_cons_self ..)
    have h2 := ih fun x hx => h x (List.mem_cons_of_mem _ hx)
    simp only [List.length_cons, List.sum_cons]
    omega
theorem wor_bd {V : List (List Int)} {d : List Int} {i m : Nat} {j : Int} (hrb : ∀ x ∈ rowV V i, 0 ≤ x ∧ x ≤ 100) (hld : d.length = m) : 0 ≤ wor V d i j ∧ wor V d i j ≤ 100 * m := by
  unfold wor; rw [hld]; exact worTo_bd hrb d j m

set_option maxHeartbeats 1600000 in
theorem sup_any (A : Option Addr) (n cap : Nat) (D : Option Addr) (m capd i j : Nat) (any : Bool) (V : List (List Int)) (d : List Int) (w : World) (hl : V.length = n) (hn : n ≤ 1000) (hi : i < n) (hld : d.length = m) (hm : m ≤ 1000)
    (hr : (rowV V i).length = m) (hrb : ∀ x ∈ rowV V i, 0 ≤ x ∧ x ≤ 100) (hV : Mat w A V) (hD : Ints w D d) :
    Calls Try.prog 93 #[.slice A n cap, .slice D m capd, .int .i64 i, .int .i64 j, .bool any] w fun e w' => e = .returned (.bool (upB V d i j any)) ∧ w = w' := by
  obtain ⟨ad, rfl, _, hc⟩ := hV.some_ (by omega)
  obtain ⟨A', c, h1, h2, h3, h4⟩ := hc i _ (List.getElem?_eq_getElem (by omega))
  have er : rowV V i = V[i]'(by omega) := rowV_get (List.getElem?_eq_getElem (by omega))
  rw [← er] at h1 h2 h4
  rw [hr] at h1 h2
  have b1 := wor_bd (V := V) (d := d) (i := i) (j := (j : Int)) hrb hld
  have b2 := wor_bd (V := V) (d := d) (i := i) (j := (i : Int)) hrb hld
  have hub : upB V d i j any = upTo V d i j any m := by unfold upB; rw [hld]
  have H := Lib.hid (And.intro hl (And.intro hld (And.intro hr (And.intro hrb (And.intro hV (And.intro hD (And.intro h4 hub)))))))
  have l1 : (i : Int) < (n : Int) := by omega
  clear hl hld hr hrb hV hD hc h4 er hub
  go_enter Try.func93, Try.ntmps93
  go_wp2_with fail
  refine (worth_any (some ad) n cap D m capd i (i : Int) V d _ H.out.1 hn hi H.out.2.1 hm H.out.2.2.1 H.out.2.2.2.1 H.out.2.2.2.2.1 H.out.2.2.2.2.2.1).mono ?_
  rintro e w' ⟨rfl, rfl⟩
  obtain ⟨o, ho⟩ : ∃ o, o = wor V d i (i : Int) := ⟨_, rfl⟩
  rw [← ho] at b2 ⊢
  have HO := Lib.hid ho
  clear ho
  go_wp2_with fail
  refine (worth_any (some ad) n cap D m capd i (j : Int) V d _ H.out.1 hn hi H.out.2.1 hm H.out.2.2.1 H.out.2.2.2.1 H.out.2.2.2.2.1 H.out.2.2.2.2.2.1).mono ?_
  rintro e w' ⟨rfl, rfl⟩
  obtain ⟨s, hs⟩ : ∃ s, s = wor V d i (j : Int) := ⟨_, rfl⟩
  rw [← hs] at b1 ⊢
  have HS := Lib.hid hs
  clear hs
  go_wp2_with fail
  go_loop [28] (fun gv => ∃ g : Nat, g ≤ m ∧ gv = .int .i64 g ∧ upTo V d i j any g = any) (fun gv => m - (intOf gv).toNat)
  case atStart => exact ⟨0, Nat.zero_le _, rfl, upTo_zero _ _ _ _ _⟩
  case round =>
    obtain ⟨g, hg, rfl, hup⟩ := hrel
    have HU := Lib.hid hup
    clear hup
    by_cases hlt : g < m
    · obtain ⟨y, hy⟩ : ∃ y, d[g]? = some y := ⟨_, List.getElem?_eq_getElem (by have := H.out.2.1; omega)⟩
      obtain ⟨x, hx⟩ : ∃ x, (rowV V i)[g]? = some x := ⟨_, List.getElem?_eq_getElem (by have := H.out.2.2.1; omega)⟩
      obtain ⟨dd, rfl, hcd⟩ := H.out.2.2.2.2.2.1 g (.int .i64 y) (by rw [List.getElem?_map, hy]; rfl)
      obtain ⟨rd, rfl, hcr⟩ := H.out.2.2.2.2.2.2.1 g (.int .i64 x) (by rw [List.getElem?_map, hx]; rfl)
      have hxb := H.out.2.2.2.1 x (List.mem_of_getElem? hx)
      have hdg : d.getD g 0 = y := by rw [List.getD_eq_getElem?_getD, hy]; rfl
      have hxg : (rowV V i).getD g 0 = x := by rw [List.getD_eq_getElem?_getD, hx]; rfl
      have hen : enough V d i j g = decide (s - x ≤ o) := by unfold enough; rw [hxg, ← HS.out, ← HO.out]
      have l2 : (g : Int) < (m : Int) := by omega
      have l3 : (0 : Int) ≤ (i : Int) := by omega
      by_cases he : y = (j : Int)
      · subst he
        have hbn : ((j : Int) != (j : Int)) = false := by simp
        have HD := Lib.hid (And.intro hdg (And.intro hen H.out.2.1))
        clear hy hx hdg hxg hen
        by_cases hle : s - x ≤ o
        · have HE : Hid (enough V d i j g = true) := Lib.hid (by rw [HD.out.2.1]; exact decide_eq_true hle)
          cases any
          · have HR : Hid (true = upB V d i j false) := Lib.hid (by rw [upTo_diff HD.out.1 (by rw [HD.out.2.2]; exact hlt) (by rw [HE.out]; simp), HE.out])
            go_wp2_with fail
            go_ret
            exact ⟨ret_bool HR.out, rfl⟩
          · have HN := Lib.hid (upTo_same HE.out HU.out)
            go_wp2_with fail
            go_round
            case rel => exact ⟨g + 1, by omega, by go_num, HN.out⟩
            case measure => simp [intOf]; omega
        · have HE : Hid (enough V d i j g = false) := Lib.hid (by rw [HD.out.2.1]; exact decide_eq_false hle)
          cases any
          · have HN := Lib.hid (upTo_same HE.out HU.out)
            go_wp2_with fail
            go_round
            case rel => exact ⟨g + 1, by omega, by go_num, HN.out⟩
            case measure => simp [intOf]; omega
          · have HR : Hid (false = upB V d i j true) := Lib.hid (by rw [upTo_diff HD.out.1 (by rw [HD.out.2.2]; exact hlt) (by rw [HE.out]; simp), HE.out])
            go_wp2_with fail
            go_ret
            exact ⟨ret_bool HR.out, rfl⟩
      · have hbn : (y != (j : Int)) = true := by rw [bne_iff_ne]; exact he
        have HN : Hid (upTo V d i j any (g + 1) = any) := Lib.hid (by rw [upTo_other (by rw [hdg]; exact he)]; exact HU.out)
        clear hy hx hdg hxg hen he
        go_wp2_with fail
        go_round
        case rel => exact ⟨g + 1, by omega, by go_num, HN.out⟩
        case measure => simp [intOf]; omega
    · obtain rfl : g = m := by omega
      have HR : Hid (any = upB V d i j any) := Lib.hid (by rw [H.out.2.2.2.2.2.2.2]; exact HU.out.symm)
      go_wp2_with fail
      go_ret
      exact ⟨ret_bool HR.out, rfl⟩

set_option maxHeartbeats 1600000 in
theorem spart_any (A : Option Addr) (n cap : Nat) (D : Option Addr) (m capd i : Nat) (x : Int) (V : List (List Int)) (d : List Int) (w : World) (hl : V.length = n) (hn : n ≤ 10) (hi : i < n) (hld : d.length = m) (hm : m ≤ 1000) (hx : 0 ≤ x ∧ x ≤ 100)
    (hr : (rowV V i).length = m) (hrb : ∀ x ∈ rowV V i, 0 ≤ x ∧ x ≤ 100) (hV : Mat w A V) (hD : Ints w D d) :
    Calls Try.prog 94 #[.slice A n cap, .slice D m capd, .int .i64 i, .int .i64 x] w fun e w' => e = .returned (.bool (partB V d n i x)) ∧ w = w' := by
  obtain ⟨ad, rfl, _, hc⟩ := hV.some_ (by omega)
  obtain ⟨A', c, h1, h2, h3, h4⟩ := hc i _ (List.getElem?_eq_getElem (by omega))
  have er : rowV V i = V[i]'(by omega) := rowV_get (List.getElem?_eq_getElem (by omega))
  rw [← er] at h1 h2 h4
  rw [hr] at h1 h2
  have b2 := wor_bd (V := V) (d := d) (i := i) (j := (i : Int)) hrb hld
  have H := Lib.hid (And.intro hl (And.intro hld (And.intro hr (And.intro hrb (And.intro hV (And.intro hD h4))))))
  have l1 : (i : Int) < (n : Int) := by omega
  clear hl hld hr hrb hV hD hc h4 er
  go_enter Try.func94, Try.ntmps94
  go_wp2_with fail
  go_loop [9, 17] (fun sv gv => ∃ g : Nat, g ≤ m ∧ gv = .int .i64 g ∧ sv = .int .i64 ((rowV V i).take g).sum) (fun _ gv => m - (intOf gv).toNat)
  case atStart => exact ⟨0, Nat.zero_le _, rfl, rfl⟩
  case round =>
    obtain ⟨g, hg, rfl, rfl⟩ := hrel
    by_cases hlt : g < m
    · obtain ⟨y, hy⟩ : ∃ y, (rowV V i)[g]? = some y := ⟨_, List.getElem?_eq_getElem (by have := H.out.2.2.1; omega)⟩
      obtain ⟨rd, rfl, hcr⟩ := H.out.2.2.2.2.2.2 g (.int .i64 y) (by rw [List.getElem?_map, hy]; rfl)
      have hyb := H.out.2.2.2.1 y (List.mem_of_getElem? hy)
      have HS := Lib.hid (sum_take' hy)
      have hsb := sum_bd' (l := (rowV V i).take g) fun x hx => H.out.2.2.2.1 x (List.mem_of_mem_take hx)
      have htl : ((rowV V i).take g).length ≤ 1000 := by rw [List.length_take]; omega
      have l2 : (g : Int) < (m : Int) := by omega
      generalize ((rowV V i).take g).sum = sv at HS hsb ⊢
      have hsv : 0 ≤ sv ∧ sv ≤ 100000 := by omega
      clear hy hsb htl
      go_wp2_with fail
      go_round
      case rel => exact ⟨g + 1, by omega, by go_num, by rw [HS.out]⟩
      case measure => simp [intOf]; omega
    · obtain rfl : g = m := by omega
      have hT : (rowV V i).take g = rowV V i := List.take_of_length_le (by rw [H.out.2.2.1]; omega)
      rw [hT]
      obtain ⟨all, hall⟩ : ∃ all, all = (rowV V i).sum := ⟨_, rfl⟩
      rw [← hall]
      have HALL := Lib.hid hall
      clear hT hall
      go_wp2_with fail
      refine (worth_any (some ad) n cap D g capd i (i : Int) V d _ H.out.1 (by omega) hi H.out.2.1 hm H.out.2.2.1 H.out.2.2.2.1 H.out.2.2.2.2.1 H.out.2.2.2.2.2.1).mono ?_
      rintro e w' ⟨rfl, rfl⟩
      obtain ⟨o, ho⟩ : ∃ o, o = wor V d i (i : Int) := ⟨_, rfl⟩
      rw [← ho] at b2 ⊢
      have HO := Lib.hid ho
      have hp : 0 ≤ (o + x) * (n : Int) ∧ (o + x) * (n : Int) ≤ 1001000 := by
        refine ⟨Int.mul_nonneg (by omega) (by omega), ?_⟩
        exact Int.le_trans (Int.mul_le_mul (show o + x ≤ 100100 by omega) (show (n : Int) ≤ 10 by omega) (by omega) (by omega)) (by omega)
      have HF : Hid (decide (all ≤ (o + x) * (n : Int)) = partB V d n i x) := Lib.hid (by unfold partB; rw [HALL.out, HO.out])
      clear ho
      go_wp2_with fail
      go_ret
      exact ⟨ret_bool HF.out, rfl⟩
end Go.Proofs.Ytkljambjdiblkaa
