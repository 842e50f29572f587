/- GamesShapley returns true for every costs and every order: the walk. -/
import Derived.Test.YtbidboagaoifaaaEqualI
import Derived.Test.YtbidboagaoifaaaIsOrder
import Derived.Test.YtbidboagaoifaaaRShapley
import Derived.Test.YtbidboagaoifaaaAwake
namespace Go.Proofs.Ytbidboagaoifaaa
open Go.RowKit

theorem ordR_len {n : Nat} {l : List Int} (h : l.length ≠ n) : ordR n l = false := by
  unfold ordR; rw [decide_eq_false h, Bool.and_false]
theorem ord_take {n : Nat} (h1 : 1 ≤ n) (h4 : n ≤ 4) (l : List Int) : ordG n (l.take 18) = ordR n l := by
  rw [ordG_eq h1 h4]
  by_cases h : l.length ≤ 18
  · rw [take18 h]
  · rw [ordR_len (l := l) (by omega), ordR_len (by rw [List.length_take]; omega)]
theorem below_drewN' {B : Nat} {w w' : World} (h : Below B w w') (n : Nat) : Below B w (w'.drewN n) := below_drewN h n

set_option maxRecDepth 100000 in
set_option maxHeartbeats 1600000 in
theorem law_shapley (A : Option Addr) (n cap : Nat) (O : Option Addr) (m capo : Nat) (c l : List Int) (w : World) (hl : c.length = n) (hcp : n ≤ cap) (hm : cap ≤ 9223372036854775807) (hlo : l.length = m) (hmo : m ≤ capo) (hco : capo ≤ 9223372036854775807)
    (hc : Ints w A c) (ho : Ints w O l) :
    Calls Try.prog 5 #[.slice A n cap, .slice O m capo] w fun e w' => e = .returned (.bool true) ∧ Below w.heap.size w w' := by
  have H := Lib.hid (And.intro hl (And.intro hlo (And.intro hc ho)))
  clear hl hlo hc ho
  go_enter Try.func5, Try.ntmps5
  go_wp2_with fail
  refine (list_any A n cap c _ H.out.1 hcp hm H.out.2.2.1).mono ?_
  rintro e w1 ⟨A1, c1, rfl, hown, hb⟩
  have hI : Ints w1 A1 (c.take 18) := At.of_own hown
  have hlt : (c.take 18).length = min n 18 := by rw [List.length_take, H.out.1]; omega
  have H1 := Lib.hid (And.intro hI (And.intro hb hlt))
  clear hown hb hI hlt
  go_wp2_with fail
  refine (list_any O m capo l _ H.out.2.1 hmo hco (H.out.2.2.2.below H1.out.2.1)).mono ?_
  rintro e w2 ⟨A2, c2, rfl, hown, hb⟩
  have hI : Ints w2 A2 (l.take 18) := At.of_own hown
  have hlt : (l.take 18).length = min m 18 := by rw [List.length_take, H.out.2.1]; omega
  have H2 := Lib.hid (And.intro hI (And.intro (H1.out.2.1.trans (hb.mono H1.out.2.1.size)) (And.intro hlt (H1.out.1.below hb))))
  clear hown hb hI hlt
  go_wp2_with fail
  have hjoin : ∃ J : World → Value → Int → Prop,
      (∀ w' v x, J w' v x → (valC c = false ∧ v = .slice none 0 0 ∧ x = 2) ∨ (valC c = true ∧ ordR (plr c) l = false ∧ v = .slice none 0 0 ∧ x = 2) ∨ (valC c = true ∧ ordR (plr c) l = true ∧ ∃ g, v = .slice (some ⟨g, 0, none⟩) (plr c) (plr c) ∧ x = 0 ∧ Blk w' g 3 (arr (joinZ c l)))) ∧
      Calls Try.prog 28 #[.slice A1 (min n 18) c1, .slice A2 (min m 18) c2] w2 fun e w' => ∃ v x, e = .returned (.tuple #[v, .int .i64 x]) ∧ J w' v x ∧ Below w2.heap.size w2 w' := by
    refine ⟨_, fun w' v x h => h, ?_⟩
    cases hv : valC c
    · exact (gjoin_bad A1 (min n 18) c1 A2 (min m 18) c2 (c.take 18) (l.take 18) w2 H1.out.2.2 (by omega) H2.out.2.2.1 (by omega) H2.out.2.2.2 H2.out.1 (.inl (by rw [valC_take]; exact hv))).mono
        fun e w' h => ⟨_, _, h.1, .inl ⟨rfl, rfl, rfl⟩, h.2⟩
    · have hp := valC_pow hv
      have h18 : c.take 18 = c := take18 (by have := (valC_iff.1 hv).1; omega)
      have hot := ord_take hp.2.1 hp.2.2 l
      cases hor : ordR (plr c) l
      · rw [hor] at hot
        exact (gjoin_bad A1 (min n 18) c1 A2 (min m 18) c2 (c.take 18) (l.take 18) w2 H1.out.2.2 (by omega) H2.out.2.2.1 (by omega) H2.out.2.2.2 H2.out.1 (.inr ⟨by rw [valC_take]; exact hv, by rw [h18]; exact hot⟩)).mono
          fun e w' h => ⟨_, _, h.1, .inr (.inl ⟨rfl, rfl, rfl, rfl⟩), h.2⟩
      · rw [hor] at hot
        have hll : l.length = plr c := by
          unfold ordR at hor; rw [Bool.and_eq_true, decide_eq_true_eq] at hor; exact hor.2
        have hl18 : l.take 18 = l := take18 (by omega)
        obtain ⟨ad1, hA1, _, _⟩ := H2.out.2.2.2.some_ (by rw [h18, hp.1]; exact Nat.pos_of_neZero _)
        have hcI := H2.out.2.2.2
        have hlI := H2.out.1
        have hcl := H1.out.2.2
        have hll2 := H2.out.2.2.1
        rw [h18] at hcI hcl
        rw [hl18] at hot hlI hll2
        rw [hA1] at hcI ⊢
        exact (gjoin_ok ad1 (min n 18) c1 A2 (min m 18) c2 c l w2 hcl hv hll2 (by omega) hcI hlI hot).mono
          fun e w' ⟨g, h1, _, h2, h3⟩ => ⟨_, _, h1, .inr (.inr ⟨rfl, rfl, g, rfl, rfl, h2⟩), h3⟩
  obtain ⟨J, hJ, hcalls⟩ := hjoin
  have HJ := Lib.hid hJ
  clear hJ
  refine hcalls.mono ?_
  rintro e w3 ⟨v3, x3, rfl, hJ3, hb3⟩
  have h3 := HJ.out _ _ _ hJ3
  have hbl3 : Below w.heap.size w w3 := H2.out.2.1.trans (hb3.mono H2.out.2.1.size)
  have HB3 := Lib.hid hbl3
  clear hbl3 hb3 hJ3
  rcases h3 with ⟨hv, rfl, rfl⟩ | hvv
  · have hv' : valC (c.take 18) = false := by rw [valC_take]; exact hv
    have HV := Lib.hid (And.intro hv hv')
    clear hv hv'
    go_wp2_with fail
    refine (list_any A n cap c _ H.out.1 hcp hm (H.out.2.2.1.below HB3.out)).mono ?_
    rintro e w4 ⟨A4, c4, rfl, hown, hb⟩
    have hI : Ints w4 A4 (c.take 18) := At.of_own hown
    have H4 := Lib.hid (And.intro hI (HB3.out.trans (hb.mono HB3.out.size)))
    clear hown hb hI
    go_wp2_with fail
    refine (shapley_bad A4 (min n 18) c4 (c.take 18) _ H1.out.2.2 (by omega) H4.out.1 HV.out.2).mono ?_
    rintro e w5 ⟨rfl, hb5⟩
    have HB5 := Lib.hid (H4.out.2.trans (hb5.mono H4.out.2.size))
    clear hb5
    go_wp2_with fail
    refine (rplayers_any A n cap c _ H.out.1 (by omega) (H.out.2.2.1.below HB5.out)).mono ?_
    rintro e w' ⟨rfl, rfl⟩
    rw [plr_bad HV.out.1]
    go_wp2_with fail
    refine (awake_any _).mono ?_
    rintro e w6 ⟨rfl, hb6⟩
    have HB6 := Lib.hid (HB5.out.trans (hb6.mono HB5.out.size))
    clear hb6
    go_wp2_with fail
    go_ret
    exact ⟨rfl, HB6.out⟩
  · have hv : valC c = true := by rcases hvv with h | h <;> exact h.1
    have hlen := (valC_iff.1 hv).1
    have h18 : c.take 18 = c := take18 (by omega)
    have hn18 : min n 18 = n := by have := H.out.1; omega
    have hp := valC_pow hv
    obtain ⟨k, hk⟩ : ∃ k, k = plr c := ⟨_, rfl⟩
    rw [← hk] at hvv hp
    have hk4 : 1 ≤ k ∧ k ≤ 4 := hp.2
    have hn16 : 2 ≤ n ∧ n ≤ 16 := by have := H.out.1; omega
    have hA : ∃ ad, A = some ad := by obtain ⟨ad, h, _⟩ := H.out.2.2.1.some_ (by omega); exact ⟨ad, h⟩
    obtain ⟨ad, rfl⟩ := hA
    have HV := Lib.hid (And.intro hv (And.intro h18 (And.intro hn18 (And.intro hp hk))))
    have HVV := Lib.hid hvv
    have hv3 : ∃ g3 n3, v3 = .slice g3 n3 n3 := by
      rcases hvv with ⟨_, _, rfl, _⟩ | ⟨_, _, g, rfl, _⟩
      · exact ⟨_, _, rfl⟩
      · exact ⟨_, _, rfl⟩
    obtain ⟨g3, n3, rfl⟩ := hv3
    clear hv h18 hn18 hp hk hlen hvv
    go_wp2_with fail
    refine (list_any (some ad) n cap c _ H.out.1 hcp hm (H.out.2.2.1.below HB3.out)).mono ?_
    rintro e w4 ⟨A4, c4, rfl, hown, hb⟩
    rw [HV.out.2.2.1] at hown ⊢
    rw [HV.out.2.1] at hown
    have hI : Ints w4 A4 c := At.of_own hown
    have H4 := Lib.hid (And.intro hI (And.intro (HB3.out.trans (hb.mono HB3.out.size)) hb))
    clear hown hb hI
    go_wp2_with fail
    refine (shapley_ok A4 n c4 c _ H.out.1 H4.out.1 HV.out.1).mono ?_
    rintro e w5 ⟨A5, c5, rfl, hown, hb5⟩
    have hF : Fracs w5 A5 (shapL c (plr c)) := At.of_own hown
    rw [← HV.out.2.2.2.2] at hF ⊢
    have H5 := Lib.hid (And.intro hF (And.intro (H4.out.2.1.trans (hb5.mono H4.out.2.1.size)) (H4.out.2.2.trans (hb5.mono H4.out.2.2.size))))
    clear hown hF hb5
    go_wp2_with fail
    refine (rplayers_any (some ad) n cap c _ H.out.1 (by omega) (H.out.2.2.1.below H5.out.2.1)).mono ?_
    rintro e w' ⟨rfl, rfl⟩
    rw [← HV.out.2.2.2.2]
    have hne : ((k : Int) == 0) = false := by simp; omega
    go_wp2_with fail
    clear hne
    refine (rshapley_ok ad n cap c _ H.out.1 HV.out.1 (H.out.2.2.1.below H5.out.2.1)).mono ?_
    rintro e w6 ⟨A6, c6, rfl, hown, hb6⟩
    have hF : Fracs w6 A6 (shapL c (plr c)) := At.of_own hown
    rw [← HV.out.2.2.2.2] at hF ⊢
    have H6 := Lib.hid (And.intro hF (And.intro (H5.out.2.1.trans (hb6.mono H5.out.2.1.size)) (And.intro (H5.out.2.2.trans (hb6.mono H5.out.2.2.size)) (H5.out.1.below hb6))))
    clear hown hF hb6
    go_wp2_with fail
    refine (equalF_any A5 A6 k k c5 c6 (shapL c k) (shapL c k) _ (shapL_length c k) (shapL_length c k) (by omega) H6.out.2.2.2 H6.out.1).mono ?_
    rintro e w7 ⟨rfl, nd, rfl⟩
    have he : eqB (shapL c k) (shapL c k) = true := by simp [eqB]
    rw [he]
    clear he
    have H7 := Lib.hid (And.intro (below_drewN H6.out.2.1 nd) (below_drewN H6.out.2.2.1 nd))
    go_wp2_with fail
    refine (awake_any _).mono ?_
    rintro e w8 ⟨rfl, hb8⟩
    have H8 := Lib.hid (And.intro (H7.out.1.trans (hb8.mono H7.out.1.size)) (H7.out.2.trans (hb8.mono H7.out.2.size)))
    clear hb8
    go_wp2_with fail
    refine (risorder_any O m capo l k _ H.out.2.1 (by omega) hk4.2 (H.out.2.2.2.below H8.out.1)).mono ?_
    rintro e w' ⟨rfl, rfl⟩
    rcases HVV.out with ⟨_, hor, hv3, rfl⟩ | ⟨_, hor, g, hv3, rfl, hbj⟩
    · injection hv3 with e1 e2 e3
      subst e1; subst e2
      rw [hor]
      clear hor e3
      go_wp2_with fail
      go_ret
      exact ⟨rfl, H8.out.1⟩
    · injection hv3 with e1 e2 e3
      subst e1; subst e2
      rw [hor]
      have hll : l.length = n3 ∧ ∀ x ∈ l, 0 ≤ x ∧ x < n3 := by
        unfold ordR at hor; rw [Bool.and_eq_true, decide_eq_true_eq] at hor; exact ⟨hor.2, ordRgo_mem hor.1⟩
      obtain ⟨os, hos, hon⟩ := nats_of hll.2
      have hO : ∃ ao, O = some ao := by obtain ⟨ao, h, _⟩ := H.out.2.2.2.some_ (by rw [hll.1]; omega); exact ⟨ao, h⟩
      obtain ⟨ao, rfl⟩ := hO
      obtain rfl : m = n3 := by rw [← H.out.2.1]; exact hll.1
      have hJ : Ints w8 (some ⟨g, 0, none⟩) (joinZ c l) := (blk_ints hbj).below H8.out.2
      have hjl : (joinZ c l).length = m := by
        unfold joinZ
        rw [toNat_of os hos]
        have := (joinP_bd c m os hon).2
        have ho2 : os.length = m := by have := hll.1; rw [hos] at this; simpa using this
        rw [joinL, ho2]; exact this
      have HO := Lib.hid (And.intro hll.1 (And.intro hos (And.intro hon (And.intro hJ hjl))))
      clear hor hll hos hon hbj hJ hjl e3
      go_wp2_with fail
      have hcI := H.out.2.2.1.below H8.out.1
      have hlI := H.out.2.2.2.below H8.out.1
      refine (rjoin_any ao ad n cap m capo c os _ hk4.2 (by rw [← H.out.1]; exact HV.out.2.2.2.1.1) H.out.1 (by have := HO.out.1; rw [HO.out.2.1] at this; simpa using this)
        (fun i x hi => hcI.some2 i _ (by simp [hi])) (fun i x hi => hlI.some2 i _ (by rw [HO.out.2.1]; simp [hi])) HO.out.2.2.1 (valC_iff.1 HV.out.1).2.2).mono ?_
      rintro e w9 ⟨rfl, hJ9, hb9⟩
      have hJ9' : Ints w9 (some ⟨w8.heap.size, 0, none⟩) (joinZ c l) := by unfold joinZ; rw [toNat_of os HO.out.2.1]; exact blk_ints hJ9
      have H9 := Lib.hid (And.intro hJ9' (And.intro (HO.out.2.2.2.1.below hb9) (H8.out.1.trans (hb9.mono H8.out.1.size))))
      clear hJ9 hJ9' hb9 hcI hlI
      go_wp2_with fail
      refine (equal_any _ _ m m m m (joinZ c l) (joinZ c l) _ HO.out.2.2.2.2 HO.out.2.2.2.2 (by omega) H9.out.2.1 H9.out.1).mono ?_
      rintro e w10 ⟨rfl, nd2, rfl⟩
      have he : eqB (joinZ c l) (joinZ c l) = true := by simp [eqB]
      rw [he]
      clear he
      go_wp2_with fail
      go_ret
      exact ⟨rfl, below_drewN H9.out.2.2 _⟩

theorem law_shapley_row (A : Option Addr) (n cap : Nat) (c : List Int) (O : Option Addr) (m capo : Nat) (l : List Int) (w : World) (hl : c.length = n) (hcp : n ≤ cap) (hm : cap ≤ 9223372036854775807) (hc : Ints w A c) (_ : ∀ x ∈ c, -9223372036854775808 ≤ x ∧ x ≤ 9223372036854775807)
    (hlo : l.length = m) (hmo : m ≤ capo) (hco : capo ≤ 9223372036854775807) (ho : Ints w O l) (_ : ∀ x ∈ l, -9223372036854775808 ≤ x ∧ x ≤ 9223372036854775807) :
    Calls Try.prog 5 #[.slice A n cap, .slice O m capo] w fun e w' => e = .returned (.bool true) ∧ Below w.heap.size w w' :=
  law_shapley A n cap O m capo c l w hl hcp hm hlo hmo hco hc ho
end Go.Proofs.Ytbidboagaoifaaa
