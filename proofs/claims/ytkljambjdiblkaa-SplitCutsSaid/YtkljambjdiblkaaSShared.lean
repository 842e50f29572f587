/- Contract: shared and Share of the reference (package corrodyref01). -/
import Derived.Test.YtkljambjdiblkaaSLow
import Derived.Test.YtkljambjdiblkaaSNash1
import Derived.Test.YtkljambjdiblkaaApp3
namespace Go.Proofs.Ytkljambjdiblkaa
open Go.RowKit

theorem sh_ge (l : List Int) : ∀ (s : List Int) (u : Nat) (c : Int), s ≠ [] → (∀ x ∈ l, 0 ≤ x) → (∀ q, q < s.length → c ≤ s.getD q 0) → c ≤ sh l s u := by
  induction l with
  | nil => intro s u c hs _ h; exact (lmin_mem_ge hs c).2 h
  | cons x l ih =>
    intro s u c hs hx h
    have h0 : 0 < s.length := List.length_pos_iff.2 hs
    refine Int.le_trans (ih (addA s 0 x) (max u (0 + 1)) c (addA_ne s 0 x hs) (fun y hy => hx y (List.mem_cons_of_mem _ hy)) fun q hq => ?_) (le_maxTo (f := fun p => sh l (addA s p x) (max u (p + 1))) (show 0 < min (u + 1) s.length by omega))
    rw [addA_length] at hq
    rw [addA_getD s 0 q x hq]
    have := h q hq
    have := hx x (List.mem_cons_self ..)
    split <;> omega

/-- One number of an owned slice is set. -/
theorem own_set {w : World} {base g n c p : Nat} {s : List Int} (h : w.ownsRow base 3 1 (.slice (some ⟨g, 0, none⟩) n c) n (s.map (Value.int .i64))) (hp : p < n) (y : Int) :
    w.frozen? ⟨g, p, none⟩ = false ∧ Ints (w.setCell ⟨g, p, none⟩ (.int .i64 y)) (some ⟨g, 0, none⟩) (s.set p y) := by
  rcases h.2 with ⟨h0, _⟩ | ⟨g', cap, cur, hv, _, hg, hnc, _, hcs, htake⟩
  · cases h0
  · injection hv with h1 _ _
    injection h1 with h1
    injection h1 with h1
    subst h1
    have hB : Blk w g 3 cur := hg
    refine ⟨hB.frozen p, ?_⟩
    have hB2 := hB.set_ p (.int .i64 y)
    have hn : s.length = n := by have := h.1; simpa using this
    intro i u hu
    refine ⟨⟨g, 0, none⟩, rfl, ?_⟩
    have e : (⟨g, 0, none⟩ : Addr).add i = ⟨g, i, none⟩ := by cases i <;> simp [Addr.add]
    rw [e, hB2.cell]
    rw [List.getElem?_map] at hu
    have hi : i < n := by
      cases h : (s.set p y)[i]? with
      | none => rw [h] at hu; cases hu
      | some z => have := (List.getElem?_eq_some_iff.1 h).1; rw [List.length_set] at this; omega
    have hcur : cur[i]? = (s[i]?).map (Value.int .i64) := by
      rw [← List.getElem?_map, ← htake, List.getElem?_take_of_lt (by omega), Array.getElem?_toList]
    by_cases hpi : p = i
    · subst hpi
      rw [List.getElem?_set_self (by omega)] at hu
      rw [← hu]
      simp only [Option.map_some]
      rw [Array.getElem?_setIfInBounds_self_of_lt (by omega)]
    · rw [List.getElem?_set_ne hpi] at hu
      rw [Array.getElem?_setIfInBounds_ne hpi, hcur, hu]

set_option maxRecDepth 100000 in
set_option maxHeartbeats 1600000 in
theorem r1shared_any (n : Nat) (hn : 1 ≤ n ∧ n ≤ 7) (l : List Int) : ∀ (A : Option Addr) (m cap : Nat) (S : Option Addr) (caps u : Nat) (s : List Int) (w : World), l.length = m → m ≤ 7 → m ≤ cap → cap ≤ 9223372036854775807 → s.length = n → n ≤ caps → caps ≤ 9223372036854775807 → u ≤ 7 → (∀ x ∈ l, 0 ≤ x ∧ x ≤ 100) → (∀ q, q < n → 0 ≤ s.getD q 0 ∧ s.getD q 0 ≤ 100 * (7 - m : Nat)) → Ints w A l → Ints w S s →
    Calls Try.prog 60 #[.slice A m cap, .slice S n caps, .int .i64 u] w fun e w' => e = .returned (.int .i64 (sh l s u)) ∧ Below w.heap.size w w' := by
  induction l with
  | nil =>
    intro A m cap S caps u s w hl hm hmc hcm hs hsc hsm hu hlb hsb hA hS
    obtain rfl : m = 0 := by simpa using hl.symm
    have H := Lib.hid (And.intro hs hS)
    clear hl hs hlb hsb hA hS
    go_enter Try.func60, Try.ntmps60
    go_wp2_with fail
    refine (r1low_any S n caps s _ H.out.1 (by omega) (by omega) H.out.2).mono ?_
    rintro e w' ⟨rfl, rfl⟩
    go_wp2_with fail
    go_ret
    exact ⟨rfl, Below.refl _ _⟩
  | cons x l ih =>
    intro A m cap S caps u s w hl hm hmc hcm hs hsc hsm hu hlb hsb hA hS
    have IH := Lib.hid ih
    have hne : ((m : Int) == 0) = false := by rw [beq_eq_false_iff_ne]; simp at hl; omega
    have hm1 : 1 ≤ m := by simp at hl; omega
    obtain ⟨ad, rfl, hcx⟩ := hA 0 (.int .i64 x) rfl
    have cx : w.cell? ad = some (.int .i64 x) := hcx
    have hxb := hlb x (List.mem_cons_self ..)
    obtain ⟨sd, rfl, hsdc⟩ := hS 0 (.int .i64 (s[0]'(by omega))) (by rw [List.getElem?_map, List.getElem?_eq_getElem (by omega)]; rfl)
    obtain ⟨K, hK⟩ : ∃ K : Nat, K = min (u + 1) n := ⟨_, rfl⟩
    have hK2 : min ((u : Int) + 1) (n : Int) = (K : Int) := by omega
    have hK3 : 1 ≤ K ∧ K ≤ n := by omega
    have hsne : s ≠ [] := by rintro rfl; simp at hs; omega
    have hsh : sh (x :: l) s u = maxTo (fun p => sh l (addA s p x) (max u (p + 1))) K := by rw [hK, ← hs]; rfl
    have h0 : 0 ≤ sh (x :: l) s u := sh_ge (x :: l) s u 0 hsne (fun y hy => (hlb y hy).1) fun q hq => (hsb q (by omega)).1
    have H := Lib.hid (And.intro hl (And.intro hs (And.intro hlb (And.intro hsb (And.intro hA (And.intro hS (And.intro hsh h0)))))))
    clear hsdc hl hs hlb hsb hA hS ih hcx hsh h0 hsne hK
    go_enter Try.func60, Try.ntmps60
    go_wp2_with fail
    all_goals
      go_loopw [7, 20] (fun bv pv wr => ∃ p : Nat, p ≤ K ∧ pv = .int .i64 p ∧ bv = .int .i64 (max 0 (maxTo (fun p => sh l (addA s p x) (max u (p + 1))) p)) ∧ Below w.heap.size w wr) (fun _ pv _ => K - (intOf pv).toNat)
      case atStart => exact ⟨0, Nat.zero_le _, rfl, rfl, Below.refl _ _⟩
      case round =>
        obtain ⟨p, hp, rfl, rfl, hbl⟩ := hrel
        have HB := Lib.hid hbl
        have hwr := hbl.size
        clear hbl
        by_cases hlt : p < K
        · have l1 : (p : Int) < (n : Int) := by omega
          have l2 : (p : Int) < (u : Int) + 1 := by omega
          have HM : Hid (maxTo (fun p => sh l (addA s p x) (max u (p + 1))) (p + 1) = max (maxTo (fun p => sh l (addA s p x) (max u (p + 1))) p) (sh l (addA s p x) (max u (p + 1)))) := Lib.hid rfl
          generalize maxTo (fun p => sh l (addA s p x) (max u (p + 1))) p = mv at HM ⊢
          go_wp2_with (at_builtin; refine appN sty_int rfl _ _ rfl wr.heap.size (some ⟨wr.heap.size, 0, none⟩) 0 0 [] rfl ?d1 (some sd) n caps (s.map (Value.int .i64)) (fun h => by cases h) ?d2 ?d3 ?d4 rfl (by omega) (by go_size) ?_)
          case d1 => exact own_new (w := wr) 3 #[] (show 0 ≤ maxLen by decide)
          case d2 => rw [List.length_map, H.out.2.1, Nat.mul_one]
          case d3 => exact (H.out.2.2.2.2.2.1.below HB.out).below ((Below.refl _ _).alloc (Nat.le_refl _) _)
          case d4 => exact ints_one _
          intro A6 k6 w6 hown6 _ hbl6 hk61 hk62
          have hb6 : Below w.heap.size w w6 := HB.out.trans ((((Below.refl _ _).alloc (Nat.le_refl _) _).trans hbl6).mono hwr)
          obtain ⟨g6, hA6, hg6, _⟩ := own_some hown6 (by omega)
          subst hA6
          obtain ⟨z, hz⟩ : ∃ z, s[p]? = some z := ⟨_, List.getElem?_eq_getElem (by rw [H.out.2.1]; omega)⟩
          have hzd : s.getD p 0 = z := by rw [List.getD_eq_getElem?_getD, hz]; rfl
          have hzb := H.out.2.2.2.1 p (by omega)
          rw [hzd] at hzb
          obtain ⟨ad6, had6, hc6⟩ := At.of_own hown6 p (.int .i64 z) (by rw [List.getElem?_map, hz]; rfl)
          injection had6 with had6
          subst had6
          have c6 : w6.cell? ⟨g6, p, none⟩ = some (.int .i64 z) := by
            have e : (⟨g6, 0, none⟩ : Addr).add p = ⟨g6, p, none⟩ := by cases p <;> simp [Addr.add]
            rwa [e] at hc6
          have cx6 : w6.cell? ad = some (.int .i64 x) := (hb6.cell (lt_of_cell cx)).trans cx
          obtain ⟨f6, hI6⟩ := own_set hown6 (show p < n by omega) (z + x)
          have hadd : s.set p (z + x) = addA s p x := by unfold addA; rw [hzd]
          rw [hadd] at hI6
          have H6 := Lib.hid (And.intro hI6 (And.intro hb6 hg6))
          have l3 : (0 : Int) < (m : Int) := by omega
          have hzu : 0 ≤ z ∧ z ≤ 700 := by omega
          have hrec : ∀ (A' : Option Addr) (c' : Nat) (uv : Int) (w7 : World), m - 1 ≤ c' → c' ≤ 9223372036854775807 → uv = ((max u (p + 1) : Nat) : Int) → Ints w7 A' l → Ints w7 (some ⟨g6, 0, none⟩) (addA s p x) →
              Calls Try.prog 60 #[.slice A' (m - 1) c', .slice (some ⟨g6, 0, none⟩) n k6, .int .i64 uv] w7 fun e w' => e = .returned (.int .i64 (sh l (addA s p x) (max u (p + 1)))) ∧ Below w7.heap.size w7 w' := by
            intro A' c' uv w7 q1 q2 q3 q4 q5
            subst q3
            have hl' : l.length = m - 1 := by have := H.out.1; simp at this; omega
            refine IH.out A' (m - 1) c' _ k6 _ (addA s p x) w7 hl' (by omega) q1 q2 (by rw [addA_length]; exact H.out.2.1) hk61 hk62 (by omega) (fun y hy => H.out.2.2.1 y (List.mem_cons_of_mem _ hy)) (fun q hq => ?_) q4 q5
            rw [addA_getD s p q x (by rw [H.out.2.1]; exact hq)]
            have := H.out.2.2.2.1 q hq
            split <;> omega
          have REC := Lib.hid hrec
          have HL : Hid (∀ w7, Below w.heap.size w w7 → Ints w7 (some ⟨ad.block, ad.off + 1, none⟩) l) := Lib.hid fun w7 hb7 i u hu => ⟨_, rfl, by
            obtain ⟨ad2, h1, h2⟩ := (H.out.2.2.2.2.1.below hb7) (i + 1) u (by simpa using hu)
            injection h1 with h1
            subst h1
            have e : (⟨ad.block, ad.off + 1, none⟩ : Addr).add i = ad.add (i + 1) := by cases i <;> simp [Addr.add]; omega
            rw [e]; exact h2⟩
          clear hrec
          have HB7 : Hid (Below w.heap.size w ((w6.setCell ⟨g6, p, none⟩ (.int .i64 (z + x))).drew)) := Lib.hid ((H6.out.2.1.setCell (by show w.heap.size ≤ g6; have := H6.out.2.2; omega) _).drew)
          have HNIL : Hid (m ≤ 1 → ∀ w7 A', Ints w7 A' l) := Lib.hid fun hm1' w7 A' => by
            have hl0 : l = [] := by have := H.out.1; simp at this; exact List.eq_nil_of_length_eq_zero (by omega)
            subst hl0
            intro i u hu
            simp at hu
          clear hown6 hbl6 hb6 hz hzd hzb hc6 hI6 hadd
          go_wp2_with fail
          go_region
          go_wp2_with fail
          all_goals
            refine Calls.mono (REC.out _ _ _ _ ?_ ?_ ?_ ?_ ?_) ?_
            · omega
            · omega
            · omega
            · first | exact HL.out _ HB7.out | exact HNIL.out (by omega) _ _
            · exact H6.out.1
          all_goals
            rintro e w8 ⟨rfl, hb8⟩
            have HB8 := Lib.hid (HB7.out.trans (hb8.mono HB7.out.size))
            clear hb8
            generalize sh l (addA s p x) (max u (p + 1)) = sv at HM ⊢
            obtain ⟨bv, hbv⟩ : ∃ bv, bv = max 0 mv := ⟨_, rfl⟩
            rw [← hbv]
            have HBV := Lib.hid hbv
            clear hbv
            by_cases hms : bv < sv
            · have HN2 : Hid (max 0 (maxTo (fun p => sh l (addA s p x) (max u (p + 1))) (p + 1)) = sv) := Lib.hid (by rw [HM.out]; have := HBV.out; omega)
              go_wp2_with fail
              go_roundw
              case rel => first | exact ⟨p + 1, by omega, by go_num, by rw [HN2.out], HB8.out⟩ | (obtain rfl : cap = 1 := (by omega); (repeat apply Exists.intro); exact ⟨⟨p + 1, by omega, by go_num, by rw [HN2.out], HB8.out⟩, rfl⟩)
              case measure => simp [intOf]; omega
            · have HN2 : Hid (max 0 (maxTo (fun p => sh l (addA s p x) (max u (p + 1))) (p + 1)) = bv) := Lib.hid (by rw [HM.out]; have := HBV.out; omega)
              go_wp2_with fail
              go_roundw
              case rel => first | exact ⟨p + 1, by omega, by go_num, by rw [HN2.out], HB8.out⟩ | (obtain rfl : cap = 1 := (by omega); (repeat apply Exists.intro); exact ⟨⟨p + 1, by omega, by go_num, by rw [HN2.out], HB8.out⟩, rfl⟩)
              case measure => simp [intOf]; omega
        · obtain rfl : p = K := by omega
          have HF : Hid (max 0 (maxTo (fun p => sh l (addA s p x) (max u (p + 1))) p) = sh (x :: l) s u) := Lib.hid (by rw [← H.out.2.2.2.2.2.2.1]; exact Int.max_eq_right H.out.2.2.2.2.2.2.2)
          rw [HF.out]
          go_wp2_with fail
          go_ret
          exact ⟨rfl, HB.out⟩
end Go.Proofs.Ytkljambjdiblkaa
