/- Laws and contracts that the proof of SplitNames uses, part 5. -/
import Derived.Test.YtkljambjdiblkaaSplitNamesM4
import Derived.Test.YtkljambjdiblkaaSplitNamesM2
import Derived.Test.YtkljambjdiblkaaSplitNamesM1
import Derived.Laws.EntriesVeiled
import Derived.Test.YtkljambjdiblkaaSplitNamesM3
import Derived.Deep.QuietTactic
import Derived.BigQuiet
import Derived.Below
namespace Go.Proofs.Ytkljambjdiblkaa
open Go.RowKit

/- Contract: the inner function of share (package split), whole. -/

/-- What holds at the head of a round. -/
def SX.rel (X : SX) (g u : Nat) (x : Int) (dl s : List Int) (b : Int) (p : Nat) (wr : World) : Prop :=
  ∃ dl' : List Int, (∀ i, i < g → dl'.getD i 0 = dl.getD i 0) ∧ X.st dl' s (max b (maxTo (fun p => sh (X.l.drop (g + 1)) (addA s p x) (max u (p + 1))) p)) wr

set_option maxRecDepth 100000 in
set_option maxHeartbeats 3200000 in
theorem try_any (X : SX) (hx : X.ok) (r : Nat) : ∀ (g u : Nat) (dl s : List Int) (b : Int) (w : World), g + r = X.m → u ≤ 7 → X.st dl s b w → s = sumsTo X.l dl X.n g → (∀ i, i < g → 0 ≤ dl.getD i 0 ∧ dl.getD i 0 < X.n) →
    Calls Try.prog 92 #[.int .i64 g, .int .i64 u, .pointer (some ⟨X.B, 0, none⟩), .pointer (some ⟨X.B + 7, 0, none⟩), .pointer (some ⟨X.B + 2, 0, none⟩), .pointer (some ⟨X.B + 5, 0, none⟩), .pointer (some ⟨X.B + 3, 0, none⟩), .pointer (some ⟨X.B + 1, 0, none⟩), .pointer (some ⟨X.B + 8, 0, none⟩)] w (X.post g u dl s b) := by
  induction r with
  | zero =>
    intro g u dl s b w hg hu hst hs hd
    obtain rfl : g = X.m := by omega
    exact try_full X hx u dl s b w hst hs hd
  | succ r ih =>
    intro g u dl s b w hg hu hst hs hd
    have IH := Lib.hid ih
    have hm7 := hx.hm
    have hn7 := hx.hn
    have hgm : ((g : Int) == (X.m : Int)) = false := by rw [beq_eq_false_iff_ne]; omega
    obtain ⟨x, hxg⟩ : ∃ x, X.l[g]? = some x := ⟨_, List.getElem?_eq_getElem (by rw [hx.hl]; omega)⟩
    have hxb := hx.hlb x (List.mem_of_getElem? hxg)
    obtain ⟨ad', had, hcx⟩ := hx.hI g (.int .i64 x) (by rw [List.getElem?_map, hxg]; rfl)
    injection had with had
    subst had
    have hdrop : X.l.drop g = x :: X.l.drop (g + 1) := by
      have h := (List.getElem?_eq_some_iff.1 hxg)
      rw [List.drop_eq_getElem_cons h.1, h.2]
    obtain ⟨K, hK⟩ : ∃ K : Nat, K = min (u + 1) X.n := ⟨_, rfl⟩
    have hK2 : min ((u : Int) + 1) (X.n : Int) = (K : Int) := by omega
    have hK3 : 1 ≤ K ∧ K ≤ X.n := by omega
    have hsh : sh (X.l.drop g) s u = maxTo (fun p => sh (X.l.drop (g + 1)) (addA s p x) (max u (p + 1))) K := by rw [hdrop, hK, ← hst.sl]; rfl
    have hxd : X.l.getD g 0 = x := by rw [List.getD_eq_getElem?_getD, hxg]; rfl
    obtain ⟨a1, b1⟩ := hst.bl.at1
    obtain ⟨a2, b2⟩ := hst.bn.at1
    have H := Lib.hid (And.intro hst (And.intro hs (And.intro hd (And.intro hsh (And.intro hx (And.intro hcx hxd))))))
    have hbm := hst.bm
    clear hst hs hd hsh hx hxg hdrop hxd ih hK hcx
    go_enter Try.func92, Try.ntmps92
    go_wp2_with fail
    all_goals
      clear a1 b1 a2 b2
      go_loopw [29] (fun pv wr => ∃ p : Nat, p ≤ K ∧ pv = .int .i64 p ∧ X.rel g u x dl s b p wr) (fun pv _ => K - (intOf pv).toNat)
      case atStart => exact ⟨0, Nat.zero_le _, rfl, dl, fun _ _ => rfl, by rw [show max b (maxTo (fun p => sh (X.l.drop (g + 1)) (addA s p x) (max u (p + 1))) 0) = b from Int.max_eq_left hbm]; exact H.out.1⟩
      case round =>
        obtain ⟨p, hp, rfl, dl1, hag, hst1⟩ := hrel
        by_cases hlt : p < K
        · have l1 : (p : Int) < (X.n : Int) := by omega
          have l2 : (p : Int) < (u : Int) + 1 := by omega
          have l3 : (g : Int) < (X.m : Int) := by omega
          have HM : Hid (maxTo (fun p => sh (X.l.drop (g + 1)) (addA s p x) (max u (p + 1))) (p + 1) = max (maxTo (fun p => sh (X.l.drop (g + 1)) (addA s p x) (max u (p + 1))) p) (sh (X.l.drop (g + 1)) (addA s p x) (max u (p + 1)))) := Lib.hid rfl
          obtain ⟨mv, hmv⟩ : ∃ mv, mv = maxTo (fun p => sh (X.l.drop (g + 1)) (addA s p x) (max u (p + 1))) p := ⟨_, rfl⟩
          rw [← hmv] at hst1 HM
          have HP := Lib.hid (And.intro hag (And.intro hst1 hmv))
          obtain ⟨c1, f1⟩ := hst1.bD.at1
          have f2 := hst1.bd.frozen g
          obtain ⟨zz, hzz⟩ : ∃ zz, (arr dl1)[g]? = some zz := ⟨_, Array.getElem?_eq_getElem (by rw [arr_size, hst1.dll]; omega)⟩
          have c2 : wr.cell? ⟨X.B + 4, g, none⟩ = some zz := by rw [hst1.bd.cell, hzz]
          have st2 := hst1.put g (p : Int)
          clear hag hst1 hmv hzz
          go_wp2_with fail
          clear c1 f1 c2 f2
          generalize wr.setCell ⟨X.B + 4, g, none⟩ (.int .i64 (p : Int)) = w2 at st2 ⊢
          obtain ⟨c1, _⟩ := st2.bl.at1
          obtain ⟨c2, _⟩ := st2.bS.at1
          have hz : s[p]? = some (s.getD p 0) := getD_get (by rw [st2.sl]; omega)
          obtain ⟨z, hze⟩ : ∃ z, z = s.getD p 0 := ⟨_, rfl⟩
          rw [← hze] at hz
          have c3 : w2.cell? ⟨X.B + 6, p, none⟩ = some (.int .i64 z) := by rw [st2.bs.cell, arr_get, hz]; rfl
          have f3 := st2.bs.frozen p
          have c4 : w2.cell? (X.ad.add g) = some (.int .i64 x) := (st2.bel.cell (by rw [H.out.2.2.2.2.1.hB]; exact lt_of_cell H.out.2.2.2.2.2.1)).trans H.out.2.2.2.2.2.1
          have hzb : 0 ≤ z ∧ z ≤ 100 * (g : Nat) := by rw [hze, H.out.2.1]; exact sumsTo_bd H.out.2.2.2.2.1.hlb g p (by omega)
          have st3 := (st2.sum p (z + x)).drew
          have hadd : s.set p (z + x) = addA s p x := by unfold addA; rw [← hze]
          rw [hadd] at st3
          have HZ := Lib.hid (And.intro hze (And.intro st3 st2))
          clear hz hze st2 st3 hadd
          go_wp2_with fail
          go_region
          obtain ⟨c5, _⟩ := (HZ.out.2.1).bt.at1
          unfold SX.caps at c5
          generalize (w2.setCell ⟨X.B + 6, p, none⟩ (.int .i64 (z + x))).drew = w3 at HZ c5 ⊢
          clear c1 c2 c3 f3 c4
          have hrec : ∀ (gv uv : Int), gv = ((g + 1 : Nat) : Int) → uv = ((max u (p + 1) : Nat) : Int) →
              Calls Try.prog 92 #[.int .i64 gv, .int .i64 uv, .pointer (some ⟨X.B, 0, none⟩), .pointer (some ⟨X.B + 7, 0, none⟩), .pointer (some ⟨X.B + 2, 0, none⟩), .pointer (some ⟨X.B + 5, 0, none⟩), .pointer (some ⟨X.B + 3, 0, none⟩), .pointer (some ⟨X.B + 1, 0, none⟩), .pointer (some ⟨X.B + 8, 0, none⟩)] w3 (X.post (g + 1) (max u (p + 1)) (dl1.set g (p : Int)) (addA s p x) (max b mv)) := by
            intro gv uv e1 e2
            subst e1 e2
            have hag := HP.out.1
            have hd := H.out.2.2.1
            have hl1 : g < dl1.length := by have := HP.out.2.1.dll; omega
            refine IH.out (g + 1) _ _ _ _ w3 (by omega) (by omega) HZ.out.2.1 ?_ ?_
            · have e3 : sumsTo X.l (dl1.set g (p : Int)) X.n g = sumsTo X.l dl X.n g := sumsTo_congr fun i hi => by rw [getD_set _ _ _ _ hl1, if_neg (by omega)]; exact hag i hi
              rw [sumsTo, e3, ← H.out.2.1, getD_set _ _ _ _ hl1, if_pos rfl, Int.toNat_natCast, H.out.2.2.2.2.2.2]
            · intro i hi
              rw [getD_set _ _ _ _ hl1]
              by_cases e : i = g
              · rw [if_pos e]; omega
              · rw [if_neg e, hag i (by omega)]; exact hd i (by omega)
          have REC := Lib.hid hrec
          clear hrec
          go_wp2_with fail
          all_goals
            refine Calls.mono (REC.out _ _ ?_ ?_) ?_
            · omega
            · omega
          all_goals
            rintro e w4 ⟨rfl, dl2, hag2, st4⟩
            clear c5
            obtain ⟨c1, _⟩ := st4.bl.at1
            obtain ⟨c2, _⟩ := st4.bS.at1
            obtain ⟨y, hy⟩ : ∃ y, y = z + x := ⟨_, rfl⟩
            have hsl : s.length = X.n := H.out.1.sl
            have hyz : (addA s p x)[p]? = some y := by rw [addA_get s p p x (by omega), if_pos rfl, hy, HZ.out.1]
            have c3 : w4.cell? ⟨X.B + 6, p, none⟩ = some (.int .i64 y) := by rw [st4.bs.cell, arr_get, hyz]; rfl
            have f3 := st4.bs.frozen p
            have c4 : w4.cell? (X.ad.add g) = some (.int .i64 x) := (st4.bel.cell (by rw [H.out.2.2.2.2.1.hB]; exact lt_of_cell H.out.2.2.2.2.2.1)).trans H.out.2.2.2.2.2.1
            have hyb : 0 ≤ y ∧ y ≤ 1000 := by omega
            have st5 := (st4.sum p (y - x)).drew
            have hback : (addA s p x).set p (y - x) = s := by
              have h := addA_back s p x
              unfold addA at h ⊢
              rw [← HZ.out.1] at h ⊢
              rw [hy, show z + x - x = z by omega]
              rw [List.set_set] at h ⊢
              rw [HZ.out.1, List.getD_eq_getElem?_getD, List.getElem?_eq_getElem (by omega)]
              simp
            rw [hback] at st5
            have HM2 : Hid (max b (maxTo (fun p => sh (X.l.drop (g + 1)) (addA s p x) (max u (p + 1))) (p + 1)) = max (max b mv) (sh (X.l.drop (g + 1)) (addA s p x) (max u (p + 1)))) := Lib.hid (by rw [HM.out]; omega)
            have H5 := Lib.hid (And.intro st5 hag2)
            clear hy hyz hsl st4 st5 hback hag2
            go_wp2_with fail
            go_region
            generalize (w4.setCell ⟨X.B + 6, p, none⟩ (.int .i64 (y - x))).drew = w5 at H5 ⊢
            clear c1 c2 c3 f3 c4
            go_wp2_with fail
            go_roundw
            case rel =>
              refine ⟨p + 1, by omega, by go_num, dl2, fun i hi => ?_, ?_⟩
              · have hl1 : g < dl1.length := by have := HP.out.2.1.dll; omega
                rw [H5.out.2 i (by omega), getD_set _ _ _ _ hl1, if_neg (by omega)]
                exact HP.out.1 i hi
              · rw [HM2.out]; exact H5.out.1
            case measure => simp [intOf]; omega
        · obtain rfl : p = K := by omega
          have HF := Lib.hid (And.intro hag hst1)
          clear hag hst1
          go_wp2_with fail
          go_end0
          exact ⟨rfl, dl1, HF.out.1, by rw [H.out.2.2.2.1]; exact HF.out.2⟩

/- Contracts: one of package split, Goods of the reference. -/

/-- Goods for so many people. -/
def goodL (l : List Int) (n : Int) : Bool := decide (1 ≤ l.length) && decide (l.length ≤ 7) && l.all in100 && decide (1 ≤ n) && decide (n ≤ 7)
theorem goodL_in {l : List Int} {n : Int} (h1 : 1 ≤ l.length) (h2 : l.length ≤ 7) (h3 : 1 ≤ n) (h4 : n ≤ 7) : goodL l n = (decide (0 ≤ lmin l) && decide (lmax l ≤ 100)) := by
  have hne : l ≠ [] := by rintro rfl; simp at h1
  unfold goodL
  rw [decide_eq_true h1, decide_eq_true h2, decide_eq_true h3, decide_eq_true h4]
  simp only [Bool.true_and, Bool.and_true]
  rw [Bool.eq_iff_iff, List.all_eq_true]
  simp only [Bool.and_eq_true, decide_eq_true_eq, in100]
  constructor
  · intro h
    exact ⟨(lmin_ge hne 0).2 fun x hx => (h x hx).1, (lmax_le hne 100).2 fun x hx => (h x hx).2⟩
  · intro ⟨a, b⟩ x hx
    exact ⟨(lmin_ge hne 0).1 a x hx, (lmax_le hne 100).1 b x hx⟩

set_option maxHeartbeats 1600000 in
theorem one_any (A : Option Addr) (k cap : Nat) (n : Int) (l : List Int) (w : World) (hl : l.length = k) (hk : k ≤ 9223372036854775807) (hI : Ints w A l) :
    Calls Try.prog 57 #[.slice A k cap, .int .i64 n] w fun e w' => e = .returned (.bool (goodL l n)) ∧ w = w' := by
  obtain ⟨b, hb⟩ : ∃ b, b = goodL l n := ⟨_, rfl⟩
  rw [← hb]
  have H := Lib.hid (And.intro hl hI)
  have bad : ((¬ 1 ≤ l.length) ∨ (¬ l.length ≤ 7) ∨ (¬ 1 ≤ n) ∨ ¬ n ≤ 7) → Hid (false = b) := fun h => Lib.hid (by
    rw [hb]; unfold goodL
    rcases h with h | h | h | h <;> simp [h])
  have good : 1 ≤ l.length → l.length ≤ 7 → 1 ≤ n → n ≤ 7 → Hid (b = (decide (0 ≤ lmin l) && decide (lmax l ≤ 100))) := fun a1 a2 a3 a4 => Lib.hid (by rw [hb]; exact goodL_in a1 a2 a3 a4)
  rw [hl] at bad good
  clear hl hI hb
  by_cases h1 : 1 ≤ n
  · by_cases h2 : n ≤ 7
    · by_cases h3 : 1 ≤ k
      · by_cases h4 : k ≤ 7
        · have HG := good h3 h4 h1 h2
          have c1 : (1 : Int) ≤ (k : Int) := by omega
          have c2 : (k : Int) ≤ 7 := by omega
          clear bad good
          go_enter Try.func57, Try.ntmps57
          go_wp2_with fail
          refine (min_any A k cap l _ H.out.1 (by omega) hk H.out.2).mono ?_
          rintro e w' ⟨rfl, rfl⟩
          generalize lmin l = lo at *
          by_cases h5 : 0 ≤ lo
          · have HG2 : Hid (decide (lmax l ≤ 100) = b) := Lib.hid (by rw [HG.out, decide_eq_true h5]; rfl)
            go_wp2_with fail
            refine (max_any A k cap l _ H.out.1 (by omega) hk H.out.2).mono ?_
            rintro e w' ⟨rfl, rfl⟩
            go_wp2_with fail
            go_ret
            exact ⟨ret_bool HG2.out, rfl⟩
          · have HF : Hid (false = b) := Lib.hid (by rw [HG.out, decide_eq_false h5]; rfl)
            go_wp2_with fail
            go_ret
            exact ⟨ret_bool HF.out, rfl⟩
        · have HF := bad (.inr (.inl h4))
          clear bad good
          go_enter Try.func57, Try.ntmps57
          go_wp2_with fail
          go_ret
          exact ⟨ret_bool HF.out, rfl⟩
      · have HF := bad (.inl h3)
        clear bad good
        go_enter Try.func57, Try.ntmps57
        go_wp2_with fail
        go_ret
        exact ⟨ret_bool HF.out, rfl⟩
    · have HF := bad (.inr (.inr (.inr h2)))
      clear bad good
      go_enter Try.func57, Try.ntmps57
      go_wp2_with fail
      go_ret
      exact ⟨ret_bool HF.out, rfl⟩
  · have HF := bad (.inr (.inr (.inl h1)))
    clear bad good
    go_enter Try.func57, Try.ntmps57
    go_wp2_with fail
    go_ret
    exact ⟨ret_bool HF.out, rfl⟩

set_option maxHeartbeats 1600000 in
theorem r1goods_any (A : Option Addr) (k cap : Nat) (n : Int) (l : List Int) (w : World) (hl : l.length = k) (hk : k ≤ 9223372036854775807) (hI : Ints w A l) :
    Calls Try.prog 27 #[.slice A k cap, .int .i64 n] w fun e w' => e = .returned (.bool (goodL l n)) ∧ w = w' := by
  obtain ⟨b, hb⟩ : ∃ b, b = goodL l n := ⟨_, rfl⟩
  rw [← hb]
  have H := Lib.hid (And.intro hl hI)
  unfold goodL at hb
  rw [hl] at hb
  clear hl hI
  by_cases h3 : 1 ≤ k
  · by_cases h4 : k ≤ 7
    · rw [decide_eq_true h3, decide_eq_true h4] at hb
      have HB := Lib.hid hb
      have c1 : (1 : Int) ≤ (k : Int) := by omega
      have c2 : (k : Int) ≤ 7 := by omega
      clear hb
      go_enter Try.func27, Try.ntmps27
      go_wp2_with fail
      refine (worths_any A k cap l _ H.out.1 hk H.out.2).mono ?_
      rintro e w' ⟨rfl, rfl⟩
      cases hv : l.all in100
      · have HF : Hid (false = b) := Lib.hid (by rw [HB.out, hv]; rfl)
        clear hv
        go_wp2_with fail
        go_ret
        exact ⟨ret_bool HF.out, rfl⟩
      · have HF : Hid (b = (decide (1 ≤ n) && decide (n ≤ 7))) := Lib.hid (by rw [HB.out, hv]; rfl)
        clear hv
        by_cases h1 : 1 ≤ n
        · have HF2 : Hid (decide (n ≤ 7) = b) := Lib.hid (by rw [HF.out, decide_eq_true h1]; rfl)
          go_wp2_with fail
          go_ret
          exact ⟨ret_bool HF2.out, rfl⟩
        · have HF2 : Hid (false = b) := Lib.hid (by rw [HF.out, decide_eq_false h1]; rfl)
          go_wp2_with fail
          go_ret
          exact ⟨ret_bool HF2.out, rfl⟩
    · have HF : Hid (false = b) := Lib.hid (by rw [hb, decide_eq_false h4]; simp)
      clear hb
      go_enter Try.func27, Try.ntmps27
      go_wp2_with fail
      go_ret
      exact ⟨ret_bool HF.out, rfl⟩
  · have HF : Hid (false = b) := Lib.hid (by rw [hb, decide_eq_false h3]; simp)
    clear hb
    go_enter Try.func27, Try.ntmps27
    go_wp2_with fail
    go_ret
    exact ⟨ret_bool HF.out, rfl⟩

/- Contracts: share, Share and Split of package split. -/

/-- What share leaves. -/
def SharPost (l : List Int) (n : Nat) (w : World) (e : Ending) (w' : World) : Prop :=
  ∃ (g c : Nat) (p : List Int), e = .returned (.tuple #[.int .i64 (shV l n), .slice (some ⟨g, 0, none⟩) l.length c]) ∧ l.length ≤ c ∧ c ≤ 9223372036854775807 ∧ p.length = l.length ∧ (∀ x ∈ p, 0 ≤ x ∧ x < n) ∧ Ints w' (some ⟨g, 0, none⟩) p ∧ lmin (sumsTo l p n l.length) = shV l n ∧ Below w.heap.size w w'

set_option maxRecDepth 100000 in
set_option maxHeartbeats 3200000 in
theorem shar_any (A : Option Addr) (m cap n : Nat) (l : List Int) (w : World) (hl : l.length = m) (hm : 1 ≤ m ∧ m ≤ 7) (hn : 1 ≤ n ∧ n ≤ 7) (hlb : ∀ x ∈ l, 0 ≤ x ∧ x ≤ 100) (hI : Ints w A l) :
    Calls Try.prog 58 #[.slice A m cap, .int .i64 n] w (SharPost l n w) := by
  obtain ⟨ad, rfl, _⟩ := hI.some_ (by omega)
  obtain ⟨X, hX⟩ : ∃ X : SX, X = { w0 := w, ad := ad, B := w.heap.size, m := m, n := n, cap := cap, l := l } := ⟨_, rfl⟩
  have hok : X.ok := by rw [hX]; exact ⟨rfl, hm, hn, hl, hlb, hI⟩
  have hmk := make_div m (by omega)
  have hmk2 := make_ints n (by omega)
  have e1 : X.B = w.heap.size := by rw [hX]
  have e2 : X.m = m := by rw [hX]
  have e3 : X.n = n := by rw [hX]
  have e4 : X.l = l := by rw [hX]
  have e5 : X.cap = cap := by rw [hX]
  have e6 : X.ad = ad := by rw [hX]
  have e7 : X.w0 = w := by rw [hX]
  have hcall : ∀ W : World, X.st (List.replicate m 0) (List.replicate n 0) (-1) W → Calls Try.prog 92 #[.int .i64 0, .int .i64 0, .pointer (some ⟨w.heap.size, 0, none⟩), .pointer (some ⟨w.heap.size + 1 + 1 + 1 + 1 + 1 + 1 + 1, 0, none⟩), .pointer (some ⟨w.heap.size + 1 + 1, 0, none⟩), .pointer (some ⟨w.heap.size + 1 + 1 + 1 + 1 + 1, 0, none⟩), .pointer (some ⟨w.heap.size + 1 + 1 + 1, 0, none⟩), .pointer (some ⟨w.heap.size + 1, 0, none⟩), .pointer (some ⟨w.heap.size + 1 + 1 + 1 + 1 + 1 + 1 + 1 + 1, 0, none⟩)] W (X.post 0 0 (List.replicate m 0) (List.replicate n 0) (-1)) := by
    intro W hW
    have h := try_any X hok m 0 0 (List.replicate m 0) (List.replicate n 0) (-1) W (by omega) (by omega) hW (by rw [e3]; rfl) (fun i hi => by omega)
    rw [e1] at h
    exact h
  have hst : ∀ F : Value, F = .func (.func 92) #[] X.caps → X.st (List.replicate m 0) (List.replicate n 0) (-1) (((((((((w.alloc (.cells #[.slice (some ad) m cap] 23)).alloc (.cells #[.int .i64 n] 3)).alloc (.cells #[.int .i64 (-1)] 3)).alloc (.cells #[.slice none 0 0] 64)).alloc (.cells (arr (List.replicate m 0)) 3)).alloc
      (.cells #[.slice (some ⟨w.heap.size + 1 + 1 + 1 + 1, 0, none⟩) m m] 64)).alloc (.cells (arr (List.replicate n 0)) 3)).alloc (.cells #[.slice (some ⟨w.heap.size + 1 + 1 + 1 + 1 + 1 + 1, 0, none⟩) n n] 23)).alloc (.cells #[F] 95)) := by
    intro F hF
    subst hF
    refine ⟨?_, ?_, ?_, ?_, ?_, ?_, ?_, ?_, ⟨.slice none 0 0, ?_, .inl ⟨rfl, rfl⟩⟩, ?_, by rw [List.length_replicate, e2], by rw [List.length_replicate, e3], by omega⟩
    · rw [e1, e2, e5, e6]; exact ((((((((Blk.new _ _ _ rfl).alloc _).alloc _).alloc _).alloc _).alloc _).alloc _).alloc _).alloc _
    · rw [e1, e3]; exact (((((((Blk.new _ _ _ (by simp)).alloc _).alloc _).alloc _).alloc _).alloc _).alloc _).alloc _
    · rw [e1]; exact ((((((Blk.new _ _ _ (by simp)).alloc _).alloc _).alloc _).alloc _).alloc _).alloc _
    · rw [e1]; exact ((((Blk.new _ _ _ (by simp)).alloc _).alloc _).alloc _).alloc _
    · rw [e1, e2]; exact (((Blk.new _ _ _ (by simp)).alloc _).alloc _).alloc _
    · rw [e1]; exact ((Blk.new _ _ _ (by simp)).alloc _).alloc _
    · rw [e1, e3]; exact (Blk.new _ _ _ (by simp)).alloc _
    · rw [e1]; exact Blk.new _ _ _ (by simp)
    · rw [e1]; exact (((((Blk.new _ _ _ (by simp)).alloc _).alloc _).alloc _).alloc _).alloc _
    · rw [e1, e7]
      exact (((((((((Below.refl _ _).alloc (Nat.le_refl _) _).alloc (by go_size) _).alloc (by go_size) _).alloc (by go_size) _).alloc (by go_size) _).alloc (by go_size) _).alloc (by go_size) _).alloc (by go_size) _).alloc (by go_size) _
  have hcaps : Value.func (.func 92) #[] #[.pointer (some ⟨w.heap.size, 0, none⟩), .pointer (some ⟨w.heap.size + 1 + 1 + 1 + 1 + 1 + 1 + 1, 0, none⟩), .pointer (some ⟨w.heap.size + 1 + 1, 0, none⟩), .pointer (some ⟨w.heap.size + 1 + 1 + 1 + 1 + 1, 0, none⟩), .pointer (some ⟨w.heap.size + 1 + 1 + 1, 0, none⟩), .pointer (some ⟨w.heap.size + 1, 0, none⟩), .pointer (some ⟨w.heap.size + 1 + 1 + 1 + 1 + 1 + 1 + 1 + 1, 0, none⟩)] = .func (.func 92) #[] X.caps := by
    unfold SX.caps; rw [e1]
  have hshv : max (-1) (sh (X.l.drop 0) (List.replicate n 0) 0) = shV l n := by
    have h := shV_nonneg (l := l) (n := n) hn.1 (fun x hx => (hlb x hx).1)
    rw [e4, List.drop_zero]
    exact Int.max_eq_right (by unfold shV at h; omega)
  have hv0 := shV_nonneg (l := l) (n := n) hn.1 (fun x hx => (hlb x hx).1)
  have H := Lib.hid (And.intro hcall (And.intro (hst _ hcaps) (And.intro hl (And.intro e1 (And.intro e2 (And.intro e3 (And.intro e4 (And.intro e7 (And.intro hshv hv0)))))))))
  clear hX hok hl hlb hI e1 e2 e3 e4 e5 e6 e7 hcall hst hshv hv0 hcaps
  go_enter Try.func58, Try.ntmps58
  go_wp2_with fail
  refine (H.out.1 _ H.out.2.1).mono ?_
  rintro e w1 ⟨rfl, dl, _, hst⟩
  obtain ⟨_, _, hl, e1, e2, e3, e4, e7, hshv, hv0⟩ := H.out
  rw [hshv] at hst
  have hb := hst.bb
  obtain ⟨pv, hp, hf⟩ := hst.fnd
  obtain ⟨v, hv⟩ : ∃ v, v = shV l n := ⟨_, rfl⟩
  rw [← hv] at hb hf hv0
  have hbel := hst.bel
  rcases hf with ⟨hf, _⟩ | ⟨g, c, p, h1, rfl, h3, h4, h5, h6, h7, h8, h9⟩
  · omega
  · rw [e2] at h3 h6
    rw [e2] at hp
    rw [e1] at hb hp h5 hbel
    rw [e3] at h7
    rw [e4, e3, e2] at h9
    rw [e7] at hbel
    obtain ⟨a1, b1⟩ := hb.at1
    obtain ⟨a2, b2⟩ := hp.at1
    have HF := Lib.hid (And.intro hb (And.intro hp (And.intro h6 (And.intro h7 (And.intro h8 (And.intro h9 (And.intro hbel (And.intro hv hl))))))))
    clear hl e1 e2 e3 e4 e7 hshv hst hb hp hbel h6 h7 h8 h9 hv
    go_wp2_with fail
    go_region
    have a3 : (((w1.setCell ⟨w.heap.size + 1 + 1, 0, none⟩ (.int .i64 v)).setCell ⟨w.heap.size + 1 + 1 + 1, 0, none⟩ (.slice (some ⟨g, 0, none⟩) m c)).drew).cell? ⟨w.heap.size + 1 + 1, 0, none⟩ = some (.int .i64 v) := ((HF.out.1.set_ 0 _).far (by show w.heap.size + 2 ≠ w.heap.size + 1 + 1 + 1; omega) _).at1.1
    have a4 : (((w1.setCell ⟨w.heap.size + 1 + 1, 0, none⟩ (.int .i64 v)).setCell ⟨w.heap.size + 1 + 1 + 1, 0, none⟩ (.slice (some ⟨g, 0, none⟩) m c)).drew).cell? ⟨w.heap.size + 1 + 1 + 1, 0, none⟩ = some (.slice (some ⟨g, 0, none⟩) m c) := ((HF.out.2.1.far (by show w.heap.size + 3 ≠ w.heap.size + 1 + 1; omega) _).set_ 0 _).at1.1
    have hI : Ints (((w1.setCell ⟨w.heap.size + 1 + 1, 0, none⟩ (.int .i64 v)).setCell ⟨w.heap.size + 1 + 1 + 1, 0, none⟩ (.slice (some ⟨g, 0, none⟩) m c)).drew) (some ⟨g, 0, none⟩) p := ints_far (ints_far HF.out.2.2.2.2.1 (fun ad ha => by injection ha with ha; subst ha; show g ≠ w.heap.size + 1 + 1; omega) _) (fun ad ha => by injection ha with ha; subst ha; show g ≠ w.heap.size + 1 + 1 + 1; omega) _
    have hB : Below w.heap.size w (((w1.setCell ⟨w.heap.size + 1 + 1, 0, none⟩ (.int .i64 v)).setCell ⟨w.heap.size + 1 + 1 + 1, 0, none⟩ (.slice (some ⟨g, 0, none⟩) m c)).drew) := ((HF.out.2.2.2.2.2.2.1.setCell (by show w.heap.size ≤ w.heap.size + 1 + 1; omega) _).setCell (by show w.heap.size ≤ w.heap.size + 1 + 1 + 1; omega) _).drew
    generalize (((w1.setCell ⟨w.heap.size + 1 + 1, 0, none⟩ (.int .i64 v)).setCell ⟨w.heap.size + 1 + 1 + 1, 0, none⟩ (.slice (some ⟨g, 0, none⟩) m c)).drew) = w2 at a3 a4 hI hB ⊢
    have HG := Lib.hid (And.intro hI hB)
    clear hI hB a1 b1 a2 b2
    go_wp2_with fail
    refine bodyPost_ret (v := .tuple #[.int .i64 v, .slice (some ⟨g, 0, none⟩) m c]) (by simp [results, Try.results58, go_sem, a3, a4]) rfl ?_
    refine ⟨g, c, p, ?_, ?_, h4, ?_, HF.out.2.2.2.1, HG.out.1, ?_, HG.out.2⟩
    · rw [HF.out.2.2.2.2.2.2.2.2, ← HF.out.2.2.2.2.2.2.2.1]
    · rw [HF.out.2.2.2.2.2.2.2.2]; exact h3
    · rw [HF.out.2.2.2.2.2.2.2.2]; exact HF.out.2.2.1
    · rw [HF.out.2.2.2.2.2.2.2.2, HF.out.2.2.2.2.2.1]; exact HF.out.2.2.2.2.2.2.2.1

theorem goodL_iff {l : List Int} {n : Int} : goodL l n = true ↔ (1 ≤ l.length ∧ l.length ≤ 7) ∧ (∀ x ∈ l, 0 ≤ x ∧ x ≤ 100) ∧ 1 ≤ n ∧ n ≤ 7 := by
  unfold goodL
  simp only [Bool.and_eq_true, decide_eq_true_eq, List.all_eq_true, in100]
  constructor
  · rintro ⟨⟨⟨⟨a, b⟩, c⟩, d⟩, e⟩; exact ⟨⟨a, b⟩, c, d, e⟩
  · rintro ⟨⟨a, b⟩, c, d, e⟩; exact ⟨⟨⟨⟨a, b⟩, c⟩, d⟩, e⟩

/-- What Share leaves. -/
def SharePost (l : List Int) (n : Int) (w : World) (e : Ending) (w' : World) : Prop :=
  (goodL l n = false ∧ e = .returned (.tuple #[.int .i64 0, .int .i64 2]) ∧ Below w.heap.size w w') ∨
  (goodL l n = true ∧ e = .returned (.tuple #[.int .i64 (shV l n.toNat), .int .i64 0]) ∧ Below w.heap.size w w')
/-- What Split leaves. -/
def SplitPost (l : List Int) (n : Int) (w : World) (e : Ending) (w' : World) : Prop :=
  (goodL l n = false ∧ e = .returned (.tuple #[.slice none 0 0, .int .i64 2]) ∧ Below w.heap.size w w') ∨
  (goodL l n = true ∧ ∃ (g c : Nat) (p : List Int), e = .returned (.tuple #[.slice (some ⟨g, 0, none⟩) l.length c, .int .i64 0]) ∧ l.length ≤ c ∧ c ≤ 9223372036854775807 ∧ p.length = l.length ∧ (∀ x ∈ p, 0 ≤ x ∧ x < n) ∧ Ints w' (some ⟨g, 0, none⟩) p ∧ lmin (sumsTo l p n.toNat l.length) = shV l n.toNat ∧ Below w.heap.size w w')

set_option maxHeartbeats 1600000 in
theorem share_any (A : Option Addr) (m cap : Nat) (n : Int) (l : List Int) (w : World) (hl : l.length = m) (hm : m ≤ 9223372036854775807) (hI : Ints w A l) :
    Calls Try.prog 25 #[.slice A m cap, .int .i64 n] w (SharePost l n w) := by
  have H := Lib.hid (And.intro hl hI)
  clear hl hI
  go_enter Try.func25, Try.ntmps25
  go_wp2_with fail
  refine (one_any A m cap n l _ H.out.1 hm H.out.2).mono ?_
  rintro e w1 ⟨rfl, rfl⟩
  cases hg : goodL l n
  · have HG := Lib.hid hg
    clear hg
    go_wp2_with fail
    go_ret2
    exact .inl ⟨HG.out, rfl, Below.refl _ _⟩
  · obtain ⟨h1, h2, h3, h4⟩ := goodL_iff.1 hg
    obtain ⟨nn, rfl⟩ : ∃ nn : Nat, n = (nn : Int) := ⟨n.toNat, by omega⟩
    have HG := Lib.hid (And.intro hg (And.intro h1 h2))
    clear hg h1 h2
    go_wp2_with fail
    refine (shar_any A m cap nn l _ H.out.1 (by rw [← H.out.1]; exact HG.out.2.1) (by omega) HG.out.2.2 H.out.2).mono ?_
    rintro e w2 ⟨g, c, p, rfl, _, _, _, _, _, _, hb⟩
    have HB := Lib.hid hb
    clear hb
    generalize hv : shV l nn = v
    have HV := Lib.hid hv
    clear hv
    go_wp2_with fail
    go_ret2
    exact .inr ⟨HG.out.1, by rw [Int.toNat_natCast, HV.out]; rfl, HB.out⟩

set_option maxHeartbeats 1600000 in
theorem split_any (A : Option Addr) (m cap : Nat) (n : Int) (l : List Int) (w : World) (hl : l.length = m) (hm : m ≤ 9223372036854775807) (hI : Ints w A l) :
    Calls Try.prog 26 #[.slice A m cap, .int .i64 n] w (SplitPost l n w) := by
  have H := Lib.hid (And.intro hl hI)
  clear hl hI
  go_enter Try.func26, Try.ntmps26
  go_wp2_with fail
  refine (one_any A m cap n l _ H.out.1 hm H.out.2).mono ?_
  rintro e w1 ⟨rfl, rfl⟩
  cases hg : goodL l n
  · have HG := Lib.hid hg
    clear hg
    go_wp2_with fail
    go_ret2
    exact .inl ⟨HG.out, rfl, Below.refl _ _⟩
  · obtain ⟨h1, h2, h3, h4⟩ := goodL_iff.1 hg
    obtain ⟨nn, rfl⟩ : ∃ nn : Nat, n = (nn : Int) := ⟨n.toNat, by omega⟩
    have HG := Lib.hid (And.intro hg (And.intro h1 h2))
    clear hg h1 h2
    go_wp2_with fail
    refine (shar_any A m cap nn l _ H.out.1 (by rw [← H.out.1]; exact HG.out.2.1) (by omega) HG.out.2.2 H.out.2).mono ?_
    rintro e w2 ⟨g, c, p, rfl, q1, q2, q3, q4, q5, q6, hb⟩
    have HB := Lib.hid (And.intro q1 (And.intro q2 (And.intro q3 (And.intro q4 (And.intro q5 (And.intro q6 hb))))))
    clear q1 q2 q3 q4 q5 q6 hb
    generalize hv : shV l nn = v
    generalize hll : l.length = ll
    have HV := Lib.hid (And.intro hv hll)
    clear hv hll
    go_wp2_with fail
    go_ret2
    obtain ⟨q1, q2, q3, q4, q5, q6, hb⟩ := HB.out
    exact .inr ⟨HG.out.1, g, c, p, by rw [HV.out.2]; rfl, q1, q2, q3, q4, q5, by rw [Int.toNat_natCast]; exact q6, hb⟩

/- The copies of arguments, read plainly. -/

theorem goodL_take (l : List Int) (n : Int) : goodL (l.take 9) n = goodL l n := by
  by_cases h : l.length ≤ 9
  · rw [List.take_of_length_le h]
  · unfold goodL
    rw [decide_eq_false (p := l.length ≤ 7) (by omega), decide_eq_false (p := (l.take 9).length ≤ 7) (by rw [List.length_take]; omega)]
    simp
theorem good_take {l : List Int} {n : Int} (h : goodL l n = true) : l.take 9 = l := List.take_of_length_le (by have := (goodL_iff.1 h).1; omega)

/- The walk of SplitScaled: one person's values times a number. -/

/-- A row of which the first goods are worth so many times as much. -/
def scTo (row : List Int) (c : Int) (k : Nat) : List Int := (row.take k).map (c * ·) ++ row.drop k
theorem scTo_zero (row : List Int) (c : Int) : scTo row c 0 = row := by simp [scTo]
theorem scTo_all (row : List Int) (c : Int) : scTo row c row.length = row.map (c * ·) := by simp [scTo]
theorem scTo_length (row : List Int) (c : Int) (k : Nat) : (scTo row c k).length = row.length := by simp [scTo]; omega
theorem scTo_get {row : List Int} {c : Int} {k : Nat} (h : k < row.length) : (scTo row c k)[k]? = row[k]? := by
  unfold scTo
  rw [List.getElem?_append_right (by simp; omega)]
  simp [Nat.min_eq_left (Nat.le_of_lt h)]
theorem scTo_set {row : List Int} {c : Int} {k : Nat} {x : Int} (h : row[k]? = some x) : (scTo row c k).set k (x * c) = scTo row c (k + 1) := by
  have hk : k < row.length := (List.getElem?_eq_some_iff.1 h).1
  have hx : row[k] = x := (List.getElem?_eq_some_iff.1 h).2
  have e : k - ((row.take k).map (c * ·)).length = 0 := by rw [List.length_map, List.length_take]; omega
  unfold scTo
  rw [List.set_append_right _ _ (by rw [List.length_map, List.length_take]; omega), e, List.drop_eq_getElem_cons hk, List.set_cons_zero, take_succ' h, List.map_append, List.append_assoc]
  simp [Int.mul_comm]
/-- The block of a row with some goods scaled. -/
def ScB (w : World) (g m cp : Nat) (xs : List Int) : Prop := ∃ cur, Blk w g 3 cur ∧ cur.size = cp ∧ cur.toList.take m = xs.map (Value.int .i64)
theorem ScB.lt {w : World} {g m cp : Nat} {xs : List Int} (h : ScB w g m cp xs) : g < w.heap.size := by obtain ⟨cur, h, _⟩ := h; exact h.lt
theorem ScB.ints {w : World} {g m cp : Nat} {xs : List Int} (h : ScB w g m cp xs) : Ints w (some ⟨g, 0, none⟩) xs := by
  obtain ⟨cur, hB, _, ht⟩ := h
  intro i v hv
  rw [← ht] at hv
  have hv' : cur.toList[i]? = some v := by
    rw [List.getElem?_take] at hv
    split at hv
    · exact hv
    · cases hv
  exact hB.at_ i v hv'
theorem ScB.read {w : World} {g m cp : Nat} {xs : List Int} (h : ScB w g m cp xs) {k : Nat} {x : Int} (hx : xs[k]? = some x) : w.cell? ⟨g, k, none⟩ = some (.int .i64 x) := by
  obtain ⟨cur, hB, _, ht⟩ := h
  have hv : (cur.toList.take m)[k]? = some (.int .i64 x) := by rw [ht]; simp [hx]
  rw [List.getElem?_take] at hv
  split at hv
  · rw [hB.cell, ← Array.getElem?_toList]; exact hv
  · cases hv
theorem ScB.frozen {w : World} {g m cp : Nat} {xs : List Int} (h : ScB w g m cp xs) (k : Nat) : w.frozen? ⟨g, k, none⟩ = false := by obtain ⟨cur, hB, _⟩ := h; exact hB.frozen k
theorem ScB.set_ {w : World} {g m cp : Nat} {xs : List Int} (h : ScB w g m cp xs) (k : Nat) (y : Int) : ScB (w.setCell ⟨g, k, none⟩ (.int .i64 y)) g m cp (xs.set k y) := by
  obtain ⟨cur, hB, hs, ht⟩ := h
  refine ⟨_, hB.set_ k _, by simp [hs], ?_⟩
  rw [Array.toList_setIfInBounds, List.take_set, ht, List.map_set]
theorem sum_bd {l : List Int} (h : ∀ x ∈ l, 0 ≤ x ∧ x ≤ 100) : l.sum ≤ 100 * l.length := by
  induction l with
  | nil => simp
  | cons x l ih =>
    have := ih fun y hy => h y (List.mem_cons_of_mem _ hy)
    have hx := h x (List.mem_cons_self ..)
    simp only [List.sum_cons, List.length_cons]
    omega
theorem shV_bd {l : List Int} {n : Nat} (hn : 1 ≤ n) (hl7 : l.length ≤ 7) (h : ∀ x ∈ l, 0 ≤ x ∧ x ≤ 100) : 0 ≤ shV l n ∧ shV l n ≤ 700 := by
  have h0 := shV_nonneg hn fun x hx => (h x hx).1
  have h1 := shV_sum hn fun x hx => (h x hx).1
  have h2 := sum_bd h
  have h3 : shV l n * 1 ≤ shV l n * (n : Int) := Int.mul_le_mul_of_nonneg_left (by omega) h0
  omega
theorem idx_of (x : Int) {k : Int} (hk : 1 ≤ k) (hk2 : k ≤ 7) : ∃ p : Nat, (p : Int) < k ∧ wrap64 ((IntKind.u64.wrap x).tmod k) = (p : Int) := by
  have h0 : 0 ≤ IntKind.u64.wrap x := by
    show 0 ≤ x % 2 ^ 64
    exact Int.emod_nonneg _ (by decide)
  have h1 := Int.tmod_nonneg k h0
  have h2 := Int.tmod_lt_of_pos (IntKind.u64.wrap x) (show (0 : Int) < k by omega)
  generalize (IntKind.u64.wrap x).tmod k = r at *
  refine ⟨r.toNat, by omega, ?_⟩
  unfold wrap64
  go_num
theorem by_of (x : Int) : ∃ c : Int, (1 ≤ c ∧ c ≤ 5) ∧ wrap64 (1 + wrap64 ((IntKind.u64.wrap x).tmod 5)) = c := by
  obtain ⟨p, hp, e⟩ := idx_of x (k := 5) (by omega) (by omega)
  rw [e]
  clear e
  have hr : 1 ≤ 1 + (p : Int) ∧ 1 + (p : Int) ≤ 5 := by omega
  generalize 1 + (p : Int) = r at *
  refine ⟨r, hr, ?_⟩
  unfold wrap64
  go_num
theorem rowV_set {V : List (List Int)} {p i : Nat} {r : List Int} (hp : p < V.length) : rowV (V.set p r) i = if p = i then r else rowV V i := by
  unfold rowV
  rw [List.getD_eq_getElem?_getD, List.getElem?_set]
  by_cases e : p = i
  · subst e; rw [if_pos rfl, if_pos hp, if_pos rfl]; rfl
  · rw [if_neg e, if_neg e, List.getD_eq_getElem?_getD]
theorem scaled_set {V : List (List Int)} {n p : Nat} {c : Int} (hl : V.length = n) (hp : p < n) (hc : 0 < c) : ScaledV V (V.set p ((rowV V p).map (c * ·))) n := by
  intro i _
  rw [rowV_set (by omega)]
  by_cases e : p = i
  · subst e; exact ⟨c, hc, by rw [if_pos rfl]⟩
  · exact ⟨1, by omega, by rw [if_neg e]; simp⟩

set_option maxRecDepth 100000 in
set_option maxHeartbeats 6400000 in
theorem law_scaled (A : Option Addr) (n cap : Nat) (V : List (List Int)) (D : Option Addr) (nd capd : Nat) (d : List Int) (per by_ : Int) (w : World)
    (hl : V.length = n) (hc : n ≤ cap) (hm : cap ≤ 9223372036854775807) (hV : Mat w A V) (_hx : ∀ r ∈ V, ∀ x ∈ r, -9223372036854775808 ≤ x ∧ x ≤ 9223372036854775807)
    (hld : d.length = nd) (hcd : nd ≤ capd) (hmd : capd ≤ 9223372036854775807) (hD : Ints w D d) (_hxd : ∀ x ∈ d, -9223372036854775808 ≤ x ∧ x ≤ 9223372036854775807)
    (_hp : -9223372036854775808 ≤ per ∧ per ≤ 9223372036854775807) (_hby : -9223372036854775808 ≤ by_ ∧ by_ ≤ 9223372036854775807) :
    Calls Try.prog 14 #[.slice A n cap, .slice D nd capd, .int .i64 per, .int .i64 by_] w fun e w' => e = .returned (.bool true) ∧ Below w.heap.size w w' := by
  have H := Lib.hid (And.intro hl (And.intro hV (And.intro hld hD)))
  clear hl hV hld hD _hx _hxd
  go_enter Try.func14, Try.ntmps14
  go_wp2_with fail
  refine (few2_any A n cap V _ H.out.1 (by omega) H.out.2.1).mono ?_
  rintro e w1 ⟨A1, q1, c1, rfl, hq, hq6, hqc, hc1, hM, hb⟩
  have H1 := Lib.hid (And.intro hq (And.intro hM hb))
  clear hq hM hb
  go_wp2_with fail
  refine (lst_any D nd capd d _ H.out.2.2.1 hcd hmd (H.out.2.2.2.below H1.out.2.2)).mono ?_
  rintro e w2 ⟨A2, k2, c2, rfl, hk2, hk29, _, _, hI2, hb2⟩
  have H2 := Lib.hid (And.intro hk2 (And.intro hI2 (And.intro (H1.out.2.1.below hb2) (H1.out.2.2.trans (hb2.mono H1.out.2.2.size)))))
  clear hk2 hI2 hb2
  go_wp2_with fail
  refine (senvy0_any A1 A2 q1 c1 k2 c2 (fewV V) (d.take 9) w2 H1.out.1 (by omega) H2.out.2.2.1 H2.out.1 (by omega) H2.out.2.1).mono ?_
  rintro e w3 h3
  unfold EnvyPost0 at h3
  rw [divided_few] at h3
  obtain ⟨gd, hgd⟩ : ∃ gd, gd = (valV V && divV V d) := ⟨_, rfl⟩
  rw [← hgd] at h3
  obtain ⟨EA, ek, ec, ev, he, hres, hb3⟩ : ∃ EA ek ec ev, e = .returned (.tuple #[.slice EA ek ec, .int .i64 ev]) ∧ ((gd = false ∧ ek = 0 ∧ ev = 2) ∨ (gd = true ∧ ev = 0 ∧ (envL V d n).length = ek ∧ ek ≤ 1000 ∧ Pairs w3 EA (envL V d n))) ∧ Below w2.heap.size w2 w3 := by
    rcases h3 with ⟨hg, rfl, hb⟩ | ⟨hg, EA, ec, rfl, q1, q2, hb⟩
    · exact ⟨none, 0, 0, 2, rfl, .inl ⟨hg, rfl, rfl⟩, hb⟩
    · rw [hg] at hgd
      obtain ⟨_, _, e3, e4⟩ := good_few hgd.symm
      rw [e3, e4, H.out.1] at q1 q2 ⊢
      exact ⟨EA, _, ec, 0, rfl, .inr ⟨hg, rfl, rfl, q1, q2⟩, hb⟩
  subst he
  have H3 := Lib.hid (And.intro hgd (And.intro hres (H2.out.2.2.2.trans (hb3.mono H2.out.2.2.2.size))))
  clear h3 hgd hres hb3
  rcases H3.out.2.1 with ⟨rfl, rfl, rfl⟩ | ⟨rfl, rfl, hk3, hk31, hP⟩
  · go_wp2_with fail
    refine (awake2_any w w3 H3.out.2.2).mono ?_
    rintro e w8 ⟨rfl, hb8⟩
    have H8 := Lib.hid hb8
    clear hb8
    go_wp2_with fail
    go_ret
    exact ⟨rfl, H8.out⟩
  · obtain ⟨hv, hd, hfew, htake⟩ := good_few H3.out.1.symm
    have hv1 := valV_iff.1 hv
    have hn4 : 1 ≤ n ∧ n ≤ 4 := by rw [← H.out.1]; exact hv1.1
    obtain ⟨m, hm'⟩ : ∃ m, m = (rowV V 0).length := ⟨_, rfl⟩
    have hm7 : 1 ≤ m ∧ m ≤ 7 := by rw [hm']; exact hv1.2.1
    have hdm : nd = m := by rw [← H.out.2.2.1]; exact divV_len hd hm'
    subst hdm
    have hrows := valV_rows hv hm'
    rw [H.out.1] at hrows
    have HV := Lib.hid (And.intro hrows (And.intro hk3 (And.intro hP (And.intro hv (And.intro hd (And.intro hfew htake))))))
    clear hv hd hfew htake hv1 hm' hk3 hP hrows
    go_wp2_with fail
    refine (divided_any A D n cap nd capd V d w3 H.out.1 (by omega) (H.out.2.1.below H3.out.2.2) H.out.2.2.1 (by omega) (H.out.2.2.2.below H3.out.2.2)).mono ?_
    rintro e w7 ⟨rfl, rfl⟩
    rw [← H3.out.1]
    have hn0 : ¬ n = 0 := by omega
    go_wp2_with fail
    obtain ⟨p, hpn, hpe⟩ := idx_of per (k := (n : Int)) (by omega) (by omega)
    have hpn : p < n := by omega
    obtain ⟨c, hcb, hce⟩ := by_of by_
    rw [hpe, hce]
    clear hce hpe _hp _hby
    refine (few3_any A n cap V _ H.out.1 (by omega) (H.out.2.1.below H3.out.2.2)).mono ?_
    rintro e w4 ⟨A4, q4, c4, vs, rfl, hq, hq64, hqc4, hc4, hown, hor, hb⟩
    rw [HV.out.2.2.2.2.2.1] at hq hor
    obtain rfl : n = q4 := by rw [← H.out.1]; exact hq
    have hrp := HV.out.1 p hpn
    have hLp : V[p]? = some (rowV V p) := by
      have : p < V.length := by rw [H.out.1]; exact hpn
      rw [List.getElem?_eq_getElem this, rowV_get (List.getElem?_eq_getElem this)]
    obtain ⟨Ap, cp, hvp, hownp⟩ := hor.2.1 p _ hLp
    obtain ⟨ad, rfl, hcell⟩ := At.of_own hown p _ hvp
    rw [hrp.1] at hcell
    obtain ⟨gp, rfl, hgp, hgp2⟩ := own_some hownp (by rw [hrp.1]; omega)
    obtain ⟨_, _, he, hcp1, hcp2, _⟩ := own_form hownp
    injection he with e1 _ e3
    subst e1; subst e3
    rw [hrp.1] at hcp1
    have hS0 : ScB w4 gp nd cp (rowV V p) := by
      rcases hownp.2 with ⟨h0, _⟩ | ⟨g, cap', cur, hv, _, hg, _, _, hsz, ht⟩
      · cases h0
      · injection hv with e1 _ e3
        injection e1 with e1
        injection e1 with e1
        subst e1; subst e3
        exact ⟨cur, hg, by simpa using hsz, by rw [hrp.1] at ht; simpa using ht⟩
    have hadb : ad.block ≠ gp := by
      have := own_ne hownp hown rfl
      intro h
      apply this
      show some gp = some ad.block
      rw [h]
    have hadl := lt_of_cell hcell
    have hw3 := H3.out.2.2.size
    have H4 := Lib.hid (And.intro hown (And.intro hor (And.intro hLp (And.intro hvp (And.intro hrp (And.intro hS0 (And.intro hcell (And.intro hadb (H3.out.2.2.trans (hb.mono H3.out.2.2.size))))))))))
    have HK := Lib.hid (And.intro hb hadl)
    have l1 : (p : Int) < (n : Int) := by omega
    have hgpw : w.heap.size ≤ gp := by omega
    clear hq hown hor hb hLp hvp hownp hrp hS0 hadb hadl
    go_wp2_with fail
    clear hcell
    go_loopw [71] (fun iv wr => ∃ k : Nat, k ≤ nd ∧ iv = .int .i64 k ∧ Kept w4.heap.size [gp] w4 wr ∧ ScB wr gp nd cp (scTo (rowV V p) c k) ∧ Below w.heap.size w wr ∧ Below w3.heap.size w3 wr) (fun iv _ => nd - (intOf iv).toNat)
    case atStart => exact ⟨0, Nat.zero_le _, rfl, Kept.refl _ _ _, by rw [scTo_zero]; exact H4.out.2.2.2.2.2.1, H4.out.2.2.2.2.2.2.2.2, HK.out.1⟩
    case round =>
      obtain ⟨k, hk, rfl, hkp, hsb, hbw, hbw3⟩ := hrel
      have HR := Lib.hid (And.intro hkp (And.intro hsb (And.intro hbw hbw3)))
      have hcell : wr.cell? (ad.add p) = some (.slice (some ⟨gp, 0, none⟩) nd cp) := by
        rw [hkp.cell (by have := HK.out.2; exact this) (by rw [add_block]; simpa using H4.out.2.2.2.2.2.2.2.1)]; exact H4.out.2.2.2.2.2.2.1
      clear hkp hsb hbw hbw3
      by_cases hlt : k < nd
      · obtain ⟨x, hx⟩ : ∃ x, (rowV V p)[k]? = some x := ⟨_, List.getElem?_eq_getElem (by rw [H4.out.2.2.2.2.1.1]; exact hlt)⟩
        have hxb := H4.out.2.2.2.2.1.2 x (List.mem_of_getElem? hx)
        have hr1 : wr.cell? ⟨gp, k, none⟩ = some (.int .i64 x) := HR.out.2.1.read (by rw [scTo_get (by rw [H4.out.2.2.2.2.1.1]; exact hlt)]; exact hx)
        have hf1 := HR.out.2.1.frozen k
        have hxc1 : 0 ≤ x * c := Int.mul_nonneg hxb.1 (by omega)
        have hxc2 : x * c ≤ 100 * c := Int.mul_le_mul_of_nonneg_right hxb.2 (by omega)
        have hxc : 0 ≤ x * c ∧ x * c ≤ 500 := by omega
        clear hxc1 hxc2
        have hS1 := HR.out.2.1.set_ k (x * c)
        rw [scTo_set hx] at hS1
        have HS := Lib.hid hS1
        clear hx hS1
        go_wp2_with fail
        go_roundw
        case rel => exact ⟨k + 1, by omega, by go_num, HR.out.1.setCell (.inl (by simp)) _, HS.out, HR.out.2.2.1.setCell hgpw _, HR.out.2.2.2.setCell hgp _⟩
        case measure => simp [intOf]; omega
      · obtain rfl : k = nd := by omega
        have hI' := HR.out.2.1.ints
        rw [show k = (rowV V p).length from H4.out.2.2.2.2.1.1.symm, scTo_all] at hI'
        have hMs : Mat wr (some ad) (V.set p ((rowV V p).map (c * ·))) := by
          refine mat_row H4.out.1 H4.out.2.1 H4.out.2.2.1 H4.out.2.2.2.1 HR.out.1 hI' (by simp)
        obtain ⟨V', hV'⟩ : ∃ V', V' = V.set p ((rowV V p).map (c * ·)) := ⟨_, rfl⟩
        rw [← hV'] at hMs
        have hpl : p < V.length := by rw [H.out.1]; exact hpn
        have hl' : V'.length = n := by rw [hV', List.length_set]; exact H.out.1
        have hsc : ScaledV V V' n := by rw [hV']; exact scaled_set H.out.1 hpn (by omega)
        have hrp' : rowV V' p = (rowV V p).map (c * ·) := by rw [hV', rowV_set hpl, if_pos rfl]
        have hr0 : (rowV V' 0).length = (rowV V 0).length := by
          obtain ⟨c', _, e⟩ := hsc 0 (by omega)
          rw [e, List.length_map]
        have hdv : divV V' d = true := by
          have := HV.out.2.2.2.2.1
          unfold divV at this ⊢
          rw [hr0, hl', ← H.out.1]; exact this
        have HM := Lib.hid (And.intro hMs (And.intro hl' (And.intro hsc (And.intro hrp' (And.intro hdv (And.intro hr0 hcell))))))
        clear hI' hMs hV' hpl hl' hsc hrp' hr0 hdv hcell
        go_wp2_with fail
        refine (lst_any D k capd d _ H.out.2.2.1 hcd hmd (H.out.2.2.2.below HR.out.2.2.1)).mono ?_
        rintro e w6 ⟨A6, k6, c6, rfl, hk6, hk69, _, _, hI6, hb6⟩
        have H6 := Lib.hid (And.intro hk6 (And.intro hI6 (And.intro (HM.out.1.below hb6) (And.intro (HR.out.2.2.1.trans (hb6.mono HR.out.2.2.1.size)) hb6))))
        clear hk6 hI6 hb6
        go_wp2_with fail
        refine (senvy0_any (some ad) A6 n c4 k6 c6 V' (d.take 9) w6 HM.out.2.1 (by omega) H6.out.2.2.1 H6.out.1 (by omega) H6.out.2.1).mono ?_
        rintro e w7 h7
        unfold EnvyPost0 at h7
        rw [HV.out.2.2.2.2.2.2, HM.out.2.2.2.2.1, HM.out.2.1, sc_envL HM.out.2.2.1 d, Bool.and_true] at h7
        rcases h7 with ⟨hg, rfl, hb7⟩ | ⟨hg, EB, eb, rfl, _, hPB, hb7⟩
        · have H7 := Lib.hid (H6.out.2.2.2.1.trans (hb7.mono H6.out.2.2.2.1.size))
          clear hg hb7
          go_wp2_with fail
          refine (awake2_any w _ H7.out).mono ?_
          rintro e w8 ⟨rfl, hb8⟩
          have H8 := Lib.hid hb8
          clear hb8
          go_wp2_with fail
          go_ret
          exact ⟨rfl, H8.out⟩
        · have e9 := HV.out.2.1
          rw [e9]
          have hb67 := H6.out.2.2.2.2.trans (hb7.mono H6.out.2.2.2.2.size)
          have hcl := HM.out.2.2.2.2.2.2
          have hcl7 : w7.cell? (ad.add p) = some (.slice (some ⟨gp, 0, none⟩) k cp) := (hb67.cell (lt_of_cell hcl)).trans hcl
          have h0k := (HV.out.1 0 (by omega)).1
          have hlt7 := lt_of_cell hcl7
          have H7 := Lib.hid (And.intro hPB (And.intro (H6.out.2.2.2.1.trans (hb7.mono H6.out.2.2.2.1.size)) (And.intro (HM.out.1.below hb67) (And.intro hg (And.intro ((HV.out.2.2.1.below HR.out.2.2.2).below hb67) (And.intro hcl7 (And.intro hlt7 (And.intro h0k (HM.out.2.2.2.2.2.1.trans h0k)))))))))
          have HI := Lib.hid (HR.out.2.1.ints.below hb67)
          clear hPB hb7 hg e9 hb67 hcl hcl7 h0k hlt7
          go_wp2_with fail
          refine (few2_any A n cap V _ H.out.1 (by omega) (H.out.2.1.below H7.out.2.1)).mono ?_
          rintro e w8 ⟨A8, q8, c8, rfl, hq, hq68, hqc8, hc8, hM, hb⟩
          have H8 := Lib.hid (And.intro hq (And.intro hM hb))
          clear hq hM hb
          go_wp2_with fail
          refine (srounds_any A8 q8 c8 (fewV V) _ H8.out.1 (by omega) H8.out.2.1).mono ?_
          rintro e w9 (⟨h, _⟩ | ⟨_, g9, rfl, hB9, _, hb9⟩)
          · rw [HV.out.2.2.2.2.2.1, HV.out.2.2.2.1] at h; cases h
          rw [HV.out.2.2.2.2.2.1, H.out.1, H7.out.2.2.2.2.2.2.2.1] at hB9
          have hb79 := H8.out.2.2.trans (hb9.mono H8.out.2.2.size)
          have h2 : (rowV (fewV V) 0).length = k := by rw [HV.out.2.2.2.2.2.1]; exact H7.out.2.2.2.2.2.2.2.1
          rw [h2]
          have H9 := Lib.hid (And.intro (blk_ints hB9) hb79)
          clear hB9 hb9 hb79 h2
          go_wp2_with fail
          refine (srounds_any (some ad) n c4 V' _ HM.out.2.1 (by omega) (H7.out.2.2.1.below H9.out.2)).mono ?_
          rintro e w10 (⟨h, _⟩ | ⟨_, g10, rfl, hB10, _, hb10⟩)
          · rw [H7.out.2.2.2.1] at h; cases h
          rw [HM.out.2.1, H7.out.2.2.2.2.2.2.2.2, sc_rnd HM.out.2.2.1 (by omega)] at hB10
          rw [H7.out.2.2.2.2.2.2.2.2]
          have H10 := Lib.hid (And.intro (H9.out.1.below hb10) (And.intro (blk_ints hB10) (H9.out.2.trans (hb10.mono H9.out.2.size))))
          clear hB10 hb10
          go_wp2_with fail
          refine (few2_any A n cap V _ H.out.1 (by omega) (H.out.2.1.below (H7.out.2.1.trans (H10.out.2.2.mono H7.out.2.1.size)))).mono ?_
          rintro e w11 ⟨A11, q11, c11, rfl, hq, hq611, hqc11, hc11, hM, hb⟩
          have H11 := Lib.hid (And.intro hq (And.intro hM (And.intro (H10.out.1.below hb) (And.intro (H10.out.2.1.below hb) (H10.out.2.2.trans (hb.mono H10.out.2.2.size))))))
          clear hq hM hb
          go_wp2_with fail
          refine (scycles_any A11 q11 c11 (fewV V) _ H11.out.1 (by omega) H11.out.2.1).mono ?_
          rintro e w12 (⟨h, _⟩ | ⟨_, g12, rfl, hB12, _, hb12⟩)
          · rw [HV.out.2.2.2.2.2.1, HV.out.2.2.2.1] at h; cases h
          rw [HV.out.2.2.2.2.2.1, H.out.1, H7.out.2.2.2.2.2.2.2.1] at hB12
          have h2 : (rowV (fewV V) 0).length = k := by rw [HV.out.2.2.2.2.2.1]; exact H7.out.2.2.2.2.2.2.2.1
          rw [h2]
          have H12 := Lib.hid (And.intro (H11.out.2.2.1.below hb12) (And.intro (H11.out.2.2.2.1.below hb12) (And.intro (blk_ints hB12) (H11.out.2.2.2.2.trans (hb12.mono H11.out.2.2.2.2.size)))))
          clear hB12 hb12 h2
          go_wp2_with fail
          refine (scycles_any (some ad) n c4 V' _ HM.out.2.1 (by omega) (H7.out.2.2.1.below H12.out.2.2.2)).mono ?_
          rintro e w13 (⟨h, _⟩ | ⟨_, g13, rfl, hB13, _, hb13⟩)
          · rw [H7.out.2.2.2.1] at h; cases h
          rw [HM.out.2.1, H7.out.2.2.2.2.2.2.2.2, sc_cycTo HM.out.2.2.1] at hB13
          rw [H7.out.2.2.2.2.2.2.2.2]
          have H13 := Lib.hid (And.intro (H12.out.1.below hb13) (And.intro (H12.out.2.1.below hb13) (And.intro (H12.out.2.2.1.below hb13) (And.intro (blk_ints hB13) (H12.out.2.2.2.trans (hb13.mono H12.out.2.2.2.size))))))
          clear hB13 hb13
          -- the shares
          have hMat := H.out.2.1.below (H7.out.2.1.trans (H13.out.2.2.2.2.mono H7.out.2.1.size))
          obtain ⟨ad0, hA0, _, hcc0⟩ := hMat.some_ (by have := H.out.1; omega)
          obtain ⟨A', c', h1, h2, h3, h4⟩ := hcc0 p _ H4.out.2.2.1
          rw [H4.out.2.2.2.2.1.1] at h1 h2
          have HA := Lib.hid (And.intro h4 hA0)
          have h1' : w13.cell? (ad0.add p) = some (.slice A' k c') := h1
          clear hMat hcc0 h4 h1
          subst hA0
          go_wp2_with fail
          refine (lst_any A' k c' (rowV V p) _ H4.out.2.2.2.2.1.1 h2 h3 HA.out.1).mono ?_
          rintro e w14 ⟨A14, k14, c14, rfl, hk14, hk149, hk14c, hc14, hI14, hb14⟩
          have H14 := Lib.hid (And.intro hk14 (And.intro hI14 (H13.out.2.2.2.2.trans (hb14.mono H13.out.2.2.2.2.size))))
          have HB14 := Lib.hid hb14
          clear hk14 hI14 hb14 h1'
          go_wp2_with fail
          refine (share_any A14 k14 c14 (n : Int) ((rowV V p).take 9) _ H14.out.1 (by omega) H14.out.2.1).mono ?_
          rintro e w15 h15
          have hg : goodL (rowV V p) (n : Int) = true := goodL_iff.2 ⟨by rw [H4.out.2.2.2.2.1.1]; exact hm7, H4.out.2.2.2.2.1.2, by omega⟩
          unfold SharePost at h15
          rw [goodL_take, hg] at h15
          obtain ⟨rfl, hb15⟩ : e = .returned (.tuple #[.int .i64 (shV (rowV V p) n), .int .i64 0]) ∧ Below w14.heap.size w14 w15 := by
            rcases h15 with ⟨h, _⟩ | ⟨_, h, hb⟩
            · cases h
            · rw [good_take hg, Int.toNat_natCast] at h
              exact ⟨h, hb⟩
          have hsb := shV_bd (l := rowV V p) hn4.1 (by rw [H4.out.2.2.2.2.1.1]; exact hm7.2) H4.out.2.2.2.2.1.2
          have hsm := shV_map c (by omega) (l := rowV V p) hn4.1 (fun x hx => (H4.out.2.2.2.2.1.2 x hx).1)
          rw [Int.mul_comm] at hsm
          obtain ⟨sv, hsv⟩ : ∃ sv, sv = shV (rowV V p) n := ⟨_, rfl⟩
          rw [← hsv] at hsb hsm ⊢
          have hxc1 : 0 ≤ sv * c := Int.mul_nonneg hsb.1 (by omega)
          have hxc2 : sv * c ≤ 700 * c := Int.mul_le_mul_of_nonneg_right hsb.2 (by omega)
          have hxc : 0 ≤ sv * c ∧ sv * c ≤ 3500 := by omega
          have hb715 := H14.out.2.2.trans (hb15.mono H14.out.2.2.size)
          have hcl15 : w15.cell? (ad.add p) = some (.slice (some ⟨gp, 0, none⟩) k cp) := (hb715.cell H7.out.2.2.2.2.2.2.1).trans H7.out.2.2.2.2.2.1
          have H15 := Lib.hid (And.intro hsm (And.intro hb715 (HB14.out.trans (hb15.mono HB14.out.size))))
          clear h15 hg hb15 hsv hsm hb715 hxc1 hxc2
          go_wp2_with fail
          have hI' := (HI.out.below H15.out.2.1)
          rw [show scTo (rowV V p) c k = (rowV V p).map (c * ·) by rw [show k = (rowV V p).length from H4.out.2.2.2.2.1.1.symm, scTo_all]] at hI'
          refine (lst_any _ k cp ((rowV V p).map (c * ·)) _ (by rw [List.length_map]; exact H4.out.2.2.2.2.1.1) hcp1 hcp2 hI').mono ?_
          rintro e w16 ⟨A16, k16, c16, rfl, hk16, hk169, hk16c, hc16, hI16, hb16⟩
          have H16 := Lib.hid (And.intro hk16 (And.intro hI16 (And.intro (H15.out.2.1.trans (hb16.mono H15.out.2.1.size)) (H15.out.2.2.trans (hb16.mono H15.out.2.2.size)))))
          clear hk16 hI16 hb16 hI' hcl15
          go_wp2_with fail
          refine (share_any A16 k16 c16 (n : Int) (((rowV V p).map (c * ·)).take 9) _ H16.out.1 (by omega) H16.out.2.1).mono ?_
          rintro e w17 h17
          have hg : goodL ((rowV V p).map (c * ·)) (n : Int) = true := by
            have hv' := valV_rows H7.out.2.2.2.1 rfl p (by rw [HM.out.2.1]; exact hpn)
            rw [HM.out.2.2.2.1] at hv'
            exact goodL_iff.2 ⟨by rw [List.length_map, H4.out.2.2.2.2.1.1]; exact hm7, hv'.2, by omega⟩
          unfold SharePost at h17
          rw [goodL_take, hg] at h17
          obtain ⟨rfl, hb17⟩ : e = .returned (.tuple #[.int .i64 (sv * c), .int .i64 0]) ∧ Below w16.heap.size w16 w17 := by
            rcases h17 with ⟨h, _⟩ | ⟨_, h, hb⟩
            · cases h
            · rw [good_take hg, Int.toNat_natCast, H15.out.1] at h
              exact ⟨h, hb⟩
          have hb717 := H16.out.2.2.1.trans (hb17.mono H16.out.2.2.1.size)
          have hb1317 := H16.out.2.2.2.trans (hb17.mono H16.out.2.2.2.size)
          have H17 := Lib.hid (And.intro hb717 (And.intro (H13.out.1.below hb1317) (And.intro (H13.out.2.1.below hb1317) (And.intro (H13.out.2.2.1.below hb1317) (H13.out.2.2.2.1.below hb1317)))))
          clear h17 hg hb17 hb717 hb1317
          go_wp2_with fail
          go_loopw [143] (fun iv wz => ∃ i : Nat, i ≤ 5 ∧ iv = .int .i64 i ∧ Below w17.heap.size w17 wz) (fun iv _ => 5 - (intOf iv).toNat)
          case atStart => exact ⟨0, Nat.zero_le _, rfl, Below.refl _ _⟩
          case round =>
            obtain ⟨i, hi, rfl, hbz⟩ := hrel
            have hz7 := H17.out.1.trans (hbz.mono H17.out.1.size)
            have HZ := Lib.hid (And.intro hbz (And.intro hz7 (H7.out.2.1.trans (hz7.mono H7.out.2.1.size))))
            clear hbz hz7
            by_cases hlt : i < 5
            · have l2 : (i : Int) < 5 := by omega
              go_wp2_with fail
              refine (few2_any _ n cap V _ H.out.1 (by omega) (H.out.2.1.below HZ.out.2.2)).mono ?_
              rintro e w18 ⟨A18, q18, c18, rfl, hq, hq618, hqc18, hc18, hM, hb⟩
              have H18 := Lib.hid (And.intro hq (And.intro hM hb))
              clear hq hM hb
              go_wp2_with fail
              refine (lst_any D k capd d _ H.out.2.2.1 hcd hmd ((H.out.2.2.2.below HZ.out.2.2).below H18.out.2.2)).mono ?_
              rintro e w19 ⟨A19, k19, c19, rfl, hk19, hk199, _, _, hI19, hb19⟩
              have H19 := Lib.hid (And.intro hk19 (And.intro hI19 (And.intro (H18.out.2.1.below hb19) (H18.out.2.2.trans (hb19.mono H18.out.2.2.size)))))
              clear hk19 hI19 hb19
              go_wp2_with fail
              refine (sfair0_any A18 A19 q18 c18 k19 c19 (i : Int) (fewV V) (d.take 9) w19 H18.out.1 (by omega) H19.out.2.2.1 H19.out.1 (by omega) H19.out.2.1).mono ?_
              rintro e w20 h20
              unfold FairPost0 at h20
              rw [divided_few, ← H3.out.1, decide_eq_true (show (0 : Int) ≤ (i : Int) by omega), decide_eq_true (show (i : Int) ≤ 4 by omega), Bool.and_true, Bool.and_true, HV.out.2.2.2.2.2.1, HV.out.2.2.2.2.2.2, H.out.1] at h20
              obtain ⟨fb, hfb⟩ : ∃ fb, fb = fairB V d n (i : Int) := ⟨_, rfl⟩
              rw [← hfb] at h20
              rcases h20 with ⟨h, _⟩ | ⟨_, rfl, hb20⟩
              · cases h
              have H20 := Lib.hid (And.intro hfb (H19.out.2.2.2.trans (hb20.mono H19.out.2.2.2.size)))
              clear hfb hb20
              go_wp2_with fail
              refine (lst_any D k capd d _ H.out.2.2.1 hcd hmd ((H.out.2.2.2.below HZ.out.2.2).below H20.out.2)).mono ?_
              rintro e w21 ⟨A21, k21, c21, rfl, hk21, hk219, _, _, hI21, hb21⟩
              have H21 := Lib.hid (And.intro hk21 (And.intro hI21 (H20.out.2.trans (hb21.mono H20.out.2.size))))
              clear hk21 hI21 hb21
              go_wp2_with fail
              refine (sfair0_any (some ad) A21 n c4 k21 c21 (i : Int) V' (d.take 9) w21 HM.out.2.1 (by omega) ((H7.out.2.2.1.below HZ.out.2.1).below H21.out.2.2) H21.out.1 (by omega) H21.out.2.1).mono ?_
              rintro e w22 h22
              unfold FairPost0 at h22
              rw [HV.out.2.2.2.2.2.2, H7.out.2.2.2.1, HM.out.2.2.2.2.1, decide_eq_true (show (0 : Int) ≤ (i : Int) by omega), decide_eq_true (show (i : Int) ≤ 4 by omega), HM.out.2.1, sc_fair HM.out.2.2.1, ← H20.out.1] at h22
              rcases h22 with ⟨h, _⟩ | ⟨_, rfl, hb22⟩
              · cases h
              have H22 := Lib.hid (H21.out.2.2.trans (hb22.mono H21.out.2.2.size))
              have hff : (fb == fb) = true := by simp
              clear hb22
              go_wp2_with fail
              go_round
              case rel => exact ⟨i + 1, by omega, by go_num, HZ.out.1.trans (H22.out.mono HZ.out.1.size)⟩
              case measure => simp [intOf]; omega
            · obtain rfl : i = 5 := by omega
              go_wp2_with fail
              refine (equalP_any EA EB ek ek ec eb (envL V d n) (envL V d n) _ HV.out.2.1 HV.out.2.1 (by omega) (H7.out.2.2.2.2.1.below HZ.out.2.1) (H7.out.1.below HZ.out.2.1)).mono ?_
              rintro e w23 ⟨rfl, k23, rfl⟩
              have e1 : eqB (envL V d n) (envL V d n) = true := by unfold eqB; exact decide_eq_true rfl
              rw [e1]
              clear e1
              go_wp2_with fail
              refine (equal_any _ _ k k k k (rndTo V n k k) (rndTo V n k k) (wr.drewN k23) (rndTo_length _ _ _ _) (rndTo_length _ _ _ _) (by omega) (H17.out.2.1.below (below_drewN HZ.out.1 k23)) (H17.out.2.2.1.below (below_drewN HZ.out.1 k23))).mono ?_
              rintro e w24 ⟨rfl, k24, rfl⟩
              have e1 : eqB (rndTo V n k k) (rndTo V n k k) = true := by unfold eqB; exact decide_eq_true rfl
              rw [e1]
              clear e1
              go_wp2_with fail
              refine (equal_any _ _ k k k k (cycTo V n k k) (cycTo V n k k) (wr.drewN (k23 + k24)) (cycTo_length V n k k) (cycTo_length V n k k) (by omega) (H17.out.2.2.2.1.below (below_drewN HZ.out.1 (k23 + k24))) (H17.out.2.2.2.2.below (below_drewN HZ.out.1 (k23 + k24)))).mono ?_
              rintro e w25 ⟨rfl, k25, rfl⟩
              have e1 : eqB (cycTo V n k k) (cycTo V n k k) = true := by unfold eqB; exact decide_eq_true rfl
              rw [e1]
              clear e1
              have hsv : (sv * c == sv * c) = true := by simp
              go_wp2_with fail
              refine (awake2_any w _ (below_drewN HZ.out.2.2 (k23 + k24 + k25))).mono ?_
              rintro e w26 ⟨rfl, hb26⟩
              have H26 := Lib.hid hb26
              clear hb26
              go_wp2_with fail
              go_ret
              exact ⟨rfl, H26.out⟩

/- People and goods by other names: the same worths, envy and fairness. Plain Lean. -/

/-- The name before it was turned by b. -/
def back (n b k : Nat) : Nat := (k + n - b) % n
theorem back_lt {n b k : Nat} (hn : 0 < n) : back n b k < n := Nat.mod_lt _ hn
theorem back_form {n b k : Nat} (hb : b < n) (hk : k < n) : back n b k = if b ≤ k then k - b else k + n - b := by
  unfold back
  split
  · rw [show k + n - b = (k - b) + n by omega, Nat.add_mod_right, Nat.mod_eq_of_lt (by omega)]
  · rw [Nat.mod_eq_of_lt (by omega)]
theorem forw_form {n b i : Nat} (hb : b < n) (hi : i < n) : (i + b) % n = if i + b < n then i + b else i + b - n := by
  split
  · rw [Nat.mod_eq_of_lt (by omega)]
  · rw [show i + b = (i + b - n) + n by omega, Nat.add_mod_right, Nat.mod_eq_of_lt (by omega)]; omega
theorem back_forw {n b i : Nat} (hb : b < n) (hi : i < n) : back n b ((i + b) % n) = i := by
  rw [back_form hb (Nat.mod_lt _ (by omega)), forw_form hb hi]
  split <;> split <;> omega
theorem forw_back {n b k : Nat} (hb : b < n) (hk : k < n) : (back n b k + b) % n = k := by
  rw [forw_form hb (back_lt (by omega)), back_form hb hk]
  split <;> split <;> omega
theorem sumN_split (f : Nat → Int) (a c : Nat) : sumN f (a + c) = sumN f a + sumN (fun k => f (a + k)) c := by
  induction c with
  | zero => simp [sumN]
  | succ c ih => rw [← Nat.add_assoc]; simp only [sumN]; rw [ih]; omega
theorem sumN_back (f : Nat → Int) {n b : Nat} (hb : b < n) : sumN (fun k => f (back n b k)) n = sumN f n := by
  have h1 := sumN_split (fun k => f (back n b k)) b (n - b)
  have h2 := sumN_split f (n - b) b
  rw [show b + (n - b) = n by omega] at h1
  rw [show n - b + b = n by omega] at h2
  rw [h1, h2]
  have e1 : sumN (fun k => f (back n b k)) b = sumN (fun k => f (n - b + k)) b := sumN_congr fun k hk => by
    rw [back_form hb (by omega), if_neg (by omega), show k + n - b = n - b + k by omega]
  have e2 : sumN (fun k => f (back n b (b + k))) (n - b) = sumN f (n - b) := sumN_congr fun k hk => by
    rw [back_form hb (by omega), if_pos (by omega), show b + k - b = k by omega]
  rw [e1, e2]; omega

/-- The values and the division by other names. -/
def rotV (V : List (List Int)) (n m b o : Nat) : List (List Int) := (List.range n).map fun k => (List.range m).map fun h => (rowV V (back n b k)).getD (back m o h) 0
def rotX (d : List Int) (n m b o : Nat) : List Int := (List.range m).map fun h => ((((d.getD (back m o h) 0).toNat + b) % n : Nat) : Int)
section
variable {V : List (List Int)} {d : List Int} {n m b o : Nat}
theorem rotV_length : (rotV V n m b o).length = n := by simp [rotV]
theorem rotX_length : (rotX d n m b o).length = m := by simp [rotX]
theorem rotV_row {k : Nat} (hk : k < n) : rowV (rotV V n m b o) k = (List.range m).map fun h => (rowV V (back n b k)).getD (back m o h) 0 := by
  show (rotV V n m b o).getD k [] = _
  unfold rotV
  simp [List.getD_eq_getElem?_getD, hk]
theorem rotV_get {k h : Nat} (hk : k < n) (hh : h < m) : (rowV (rotV V n m b o) k).getD h 0 = (rowV V (back n b k)).getD (back m o h) 0 := by
  rw [rotV_row hk]
  simp [List.getD_eq_getElem?_getD, hh]
theorem rotX_get {h : Nat} (hh : h < m) : (rotX d n m b o).getD h 0 = ((((d.getD (back m o h) 0).toNat + b) % n : Nat) : Int) := by
  unfold rotX
  simp [List.getD_eq_getElem?_getD, hh]
variable (hb : b < n) (ho : o < m) (hd : ∀ x ∈ d, 0 ≤ x ∧ x < (n : Int)) (hld : d.length = m)
include hb ho hd hld
omit ho in
theorem rotX_iff {h k : Nat} (hh : h < m) (hk : k < n) : (rotX d n m b o).getD h 0 = (k : Int) ↔ d.getD (back m o h) 0 = ((back n b k : Nat) : Int) := by
  rw [rotX_get hh]
  obtain ⟨p, hp, hpn⟩ := getD_in hd (g := back m o h) (by rw [hld]; exact back_lt (by omega))
  rw [hp, Int.toNat_natCast]
  constructor
  · intro e
    have e : (p + b) % n = k := by omega
    rw [← e, back_forw hb hpn]
  · intro e
    have e : p = back n b k := by omega
    rw [e, forw_back hb hk]
theorem rot_wor {k l : Nat} (hk : k < n) (hl : l < n) : wor (rotV V n m b o) (rotX d n m b o) k (l : Int) = wor V d (back n b k) ((back n b l : Nat) : Int) := by
  unfold wor
  rw [rotX_length, hld, worTo_sumN, worTo_sumN]
  refine Eq.trans (sumN_congr fun h hh => ?_) (sumN_back (fun g => if d.getD g 0 = ((back n b l : Nat) : Int) then (rowV V (back n b k)).getD g 0 else 0) ho)
  rw [rotV_get hk hh]
  by_cases e : (rotX d n m b o).getD h 0 = (l : Int)
  · rw [if_pos e, if_pos ((rotX_iff hb hd hld hh hl).1 e)]
  · rw [if_neg e, if_neg fun h2 => e ((rotX_iff hb hd hld hh hl).2 h2)]
theorem rot_env {k l : Nat} (hk : k < n) (hl : l < n) : envB (rotV V n m b o) (rotX d n m b o) k l = envB V d (back n b k) (back n b l) := by
  unfold envB
  rw [rot_wor hb ho hd hld hk hk, rot_wor hb ho hd hld hk hl]
theorem rot_up {k l : Nat} (hk : k < n) (hl : l < n) (any : Bool) : upB (rotV V n m b o) (rotX d n m b o) k l any = upB V d (back n b k) (back n b l) any := by
  have hm : 0 < m := by omega
  rw [Bool.eq_iff_iff]
  cases any
  · rw [upB_some, upB_some, rotX_length, hld]
    constructor
    · rintro ⟨h, hh, e, hle⟩
      rw [rot_wor hb ho hd hld hk hk, rot_wor hb ho hd hld hk hl, rotV_get hk hh] at hle
      exact ⟨back m o h, back_lt hm, (rotX_iff hb hd hld hh hl).1 e, hle⟩
    · rintro ⟨g, hg, e, hle⟩
      refine ⟨(g + o) % m, Nat.mod_lt _ hm, (rotX_iff hb hd hld (Nat.mod_lt _ hm) hl).2 (by rw [back_forw ho hg]; exact e), ?_⟩
      rw [rot_wor hb ho hd hld hk hk, rot_wor hb ho hd hld hk hl, rotV_get hk (Nat.mod_lt _ hm), back_forw ho hg]
      exact hle
  · rw [upB_each, upB_each, rotX_length, hld]
    constructor
    · intro hall g hg e
      have := hall ((g + o) % m) (Nat.mod_lt _ hm) ((rotX_iff hb hd hld (Nat.mod_lt _ hm) hl).2 (by rw [back_forw ho hg]; exact e))
      rw [rot_wor hb ho hd hld hk hk, rot_wor hb ho hd hld hk hl, rotV_get hk (Nat.mod_lt _ hm), back_forw ho hg] at this
      exact this
    · intro hall h hh e
      rw [rot_wor hb ho hd hld hk hk, rot_wor hb ho hd hld hk hl, rotV_get hk hh]
      exact hall (back m o h) (back_lt hm) ((rotX_iff hb hd hld hh hl).1 e)
omit hb ho hd hld in
theorem mostTo_le {row d : List Int} {i g : Nat} (c : Int) : mostTo row d i g ≤ c ↔ 0 ≤ c ∧ ∀ k, k < g → d.getD k 0 ≠ (i : Int) → row.getD k 0 ≤ c := by
  induction g with
  | zero => simp [mostTo]
  | succ g ih =>
    simp only [mostTo]
    by_cases e : d.getD g 0 = (i : Int)
    · rw [if_pos e, ih]
      constructor
      · rintro ⟨h0, h⟩
        refine ⟨h0, fun k hk hne => ?_⟩
        by_cases ek : k = g
        · subst ek; exact absurd e hne
        · exact h k (by omega) hne
      · rintro ⟨h0, h⟩
        exact ⟨h0, fun k hk hne => h k (by omega) hne⟩
    · rw [if_neg e, Int.max_le, ih]
      constructor
      · rintro ⟨⟨h0, h⟩, hg⟩
        refine ⟨h0, fun k hk hne => ?_⟩
        by_cases ek : k = g
        · subst ek; exact hg
        · exact h k (by omega) hne
      · rintro ⟨h0, h⟩
        exact ⟨⟨h0, fun k hk hne => h k (by omega) hne⟩, h g (by omega) e⟩
theorem rot_most {k : Nat} (hk : k < n) : mostTo (rowV (rotV V n m b o) k) (rotX d n m b o) k m = mostTo (rowV V (back n b k)) d (back n b k) m := by
  have hm : 0 < m := by omega
  have key : ∀ c, mostTo (rowV (rotV V n m b o) k) (rotX d n m b o) k m ≤ c ↔ mostTo (rowV V (back n b k)) d (back n b k) m ≤ c := by
    intro c
    rw [mostTo_le, mostTo_le]
    refine and_congr_right fun _ => ?_
    constructor
    · intro hall g hg hne
      have := hall ((g + o) % m) (Nat.mod_lt _ hm) (fun h => hne (by have := (rotX_iff hb hd hld (Nat.mod_lt _ hm) hk).1 h; rwa [back_forw ho hg] at this))
      rwa [rotV_get hk (Nat.mod_lt _ hm), back_forw ho hg] at this
    · intro hall h hh hne
      rw [rotV_get hk hh]
      exact hall (back m o h) (back_lt hm) fun h2 => hne ((rotX_iff hb hd hld hh hk).2 h2)
  exact Int.le_antisymm ((key _).2 (Int.le_refl _)) ((key _).1 (Int.le_refl _))
end
theorem sum_sumN : ∀ l : List Int, l.sum = sumN (fun k => l.getD k 0) l.length
  | [] => rfl
  | x :: l => by
    rw [List.sum_cons, List.length_cons, sumN_shift, sum_sumN l]
    rfl
theorem all_back {P Q : Nat → Bool} {n b : Nat} (hb : b < n) (h : ∀ k, k < n → P k = Q (back n b k)) : (List.range n).all P = (List.range n).all Q := by
  rw [Bool.eq_iff_iff, List.all_eq_true, List.all_eq_true]
  constructor
  · intro hall i hi
    have hi := List.mem_range.1 hi
    have := hall ((i + b) % n) (List.mem_range.2 (Nat.mod_lt _ (by omega)))
    rwa [h _ (Nat.mod_lt _ (by omega)), back_forw hb hi] at this
  · intro hall k hk
    have hk := List.mem_range.1 hk
    rw [h k hk]
    exact hall _ (List.mem_range.2 (back_lt (by omega)))
theorem envRow_count (V : List (List Int)) (d : List Int) (i k : Nat) : ((envRow V d i k).length : Int) = sumN (fun j => if envB V d i j then 1 else 0) k := by
  induction k with
  | zero => rfl
  | succ k ih =>
    rw [envRow_succ, List.length_append]
    simp only [sumN]
    rw [← ih]
    by_cases h : envB V d i k = true
    · rw [if_pos h, if_pos h]; simp
    · rw [if_neg h, if_neg h]; simp
theorem envTo_count (V : List (List Int)) (d : List Int) (n k : Nat) : ((envTo V d n k).length : Int) = sumN (fun i => sumN (fun j => if envB V d i j then 1 else 0) n) k := by
  induction k with
  | zero => rfl
  | succ k ih =>
    rw [envTo_succ, List.length_append]
    simp only [sumN]
    rw [← ih, ← envRow_count]; simp

section
variable {V : List (List Int)} {d : List Int} {n m b o : Nat}
variable (hb : b < n) (ho : o < m) (hd : ∀ x ∈ d, 0 ≤ x ∧ x < (n : Int)) (hld : d.length = m)
include hb ho hd hld
theorem rot_part (hr : ∀ i, i < n → (rowV V i).length = m) {k : Nat} (hk : k < n) (kind : Int) : partB (rotV V n m b o) (rotX d n m b o) n k (moreK (rotV V n m b o) (rotX d n m b o) kind k) = partB V d n (back n b k) (moreK V d kind (back n b k)) := by
  have es : (rowV (rotV V n m b o) k).sum = (rowV V (back n b k)).sum := by
    rw [sum_sumN, sum_sumN (rowV V (back n b k)), hr _ (back_lt (by omega))]
    have el : (rowV (rotV V n m b o) k).length = m := by rw [rotV_row hk]; simp
    rw [el]
    exact Eq.trans (sumN_congr fun h hh => rotV_get hk hh) (sumN_back (fun g => (rowV V (back n b k)).getD g 0) ho)
  have em : moreK (rotV V n m b o) (rotX d n m b o) kind k = moreK V d kind (back n b k) := by
    unfold moreK
    rw [rotX_length, hld, rot_most hb ho hd hld hk]
  unfold partB
  rw [es, em, rot_wor hb ho hd hld hk hk]
theorem rot_fair (hr : ∀ i, i < n → (rowV V i).length = m) (kind : Int) : fairB (rotV V n m b o) (rotX d n m b o) n kind = fairB V d n kind := by
  unfold fairB
  split
  · refine all_back hb fun k hk => all_back hb fun l hl => ?_
    rw [rot_env hb ho hd hld hk hl]
    unfold okE
    rw [rot_up hb ho hd hld hk hl, rot_up hb ho hd hld hk hl]
  · exact all_back hb fun k hk => rot_part hb ho hd hld hr hk kind
theorem rot_count : (envL (rotV V n m b o) (rotX d n m b o) n).length = (envL V d n).length := by
  have h1 := envTo_count (rotV V n m b o) (rotX d n m b o) n n
  have h2 := envTo_count V d n n
  have h3 : sumN (fun k => sumN (fun l => if envB (rotV V n m b o) (rotX d n m b o) k l then (1 : Int) else 0) n) n = sumN (fun i => sumN (fun j => if envB V d i j then 1 else 0) n) n := by
    refine Eq.trans (sumN_congr fun k hk => ?_) (sumN_back (fun i => sumN (fun j => if envB V d i j then (1 : Int) else 0) n) hb)
    refine Eq.trans (sumN_congr fun l hl => ?_) (sumN_back (fun j => if envB V d (back n b k) j then (1 : Int) else 0) hb)
    rw [rot_env hb ho hd hld hk hl]
  unfold envL
  omega
theorem rot_mem {p : Nat × Nat} (h : p ∈ envL V d n) : ((p.1 + b) % n, (p.2 + b) % n) ∈ envL (rotV V n m b o) (rotX d n m b o) n := by
  obtain ⟨h1, h2, h3⟩ := mem_envL.1 h
  refine mem_envL.2 ⟨Nat.mod_lt _ (by omega), Nat.mod_lt _ (by omega), ?_⟩
  rw [rot_env hb ho hd hld (Nat.mod_lt _ (by omega)) (Nat.mod_lt _ (by omega)), back_forw hb h1, back_forw hb h2]
  exact h3
omit hb ho hd hld in
theorem rot_valid (hn4 : 1 ≤ n ∧ n ≤ 4) (hm7 : 1 ≤ m ∧ m ≤ 7) (hr : ∀ i, i < n → (rowV V i).length = m ∧ ∀ x ∈ rowV V i, 0 ≤ x ∧ x ≤ 100) : valV (rotV V n m b o) = true ∧ divV (rotV V n m b o) (rotX d n m b o) = true := by
  have h0 : (rowV (rotV V n m b o) 0).length = m := by rw [rotV_row (by omega)]; simp
  constructor
  · refine valV_iff.2 ⟨by rw [rotV_length]; exact hn4, by rw [h0]; exact hm7, fun r hrm => ?_⟩
    obtain ⟨k, hk, rfl⟩ := List.mem_map.1 hrm
    refine ⟨by rw [h0]; simp, fun x hx => ?_⟩
    obtain ⟨h, hh, rfl⟩ := List.mem_map.1 hx
    have := hr _ (back_lt (n := n) (b := b) (k := k) (by omega))
    have hl := back_lt (n := m) (b := o) (k := h) (by omega)
    rw [List.getD_eq_getElem?_getD, List.getElem?_eq_getElem (by rw [this.1]; exact hl)]
    exact this.2 _ (List.getElem_mem _)
  · unfold divV
    simp only [Bool.and_eq_true, decide_eq_true_eq, Bool.not_eq_true', List.any_eq_false]
    refine ⟨by rw [rotX_length, h0], fun x hx => ?_⟩
    obtain ⟨h, _, rfl⟩ := List.mem_map.1 hx
    have := Nat.mod_lt ((d.getD (back m o h) 0).toNat + b) (show 0 < n by omega)
    unfold badD
    rw [rotV_length, decide_eq_false (by omega), decide_eq_false (by omega)]
    simp
end

/- Contracts: slices.Index and slices.Contains on slices of pairs, for a pair that is there. -/

theorem run_eql_pair (p q : Nat × Nat) (w : World) : (binOp .eql 38 (.agg #[.int .i64 (p.1 : Int), .int .i64 (p.2 : Int)]) (.agg #[.int .i64 (q.1 : Int), .int .i64 (q.2 : Int)])).run Try.prog w = .ok (.bool (decide (p = q))) w := by
  have e0 : decide (p = q) = (decide ((p.1 : Int) = (q.1 : Int)) && decide ((p.2 : Int) = (q.2 : Int))) := by
    rw [Bool.eq_iff_iff]; simp only [Prod.ext_iff, decide_eq_true_eq, Bool.and_eq_true]
    omega
  rw [e0]
  have h := eq_pair (p.1 : Int) p.2 q.1 q.2 w
  go_simp

set_option maxHeartbeats 1600000 in
theorem indexP_any (A : Option Addr) (q c : Nat) (ps : List (Nat × Nat)) (p : Nat × Nat) (w : World) (hl : ps.length = q) (hq : q ≤ 1000) (hP : Pairs w A ps) (hp : p ∈ ps) :
    Calls Try.prog 68 #[.slice A q c, .agg #[.int .i64 (p.1 : Int), .int .i64 (p.2 : Int)]] w fun e w' => (∃ k : Nat, e = .returned (.int .i64 k) ∧ k < q) ∧ Below w.heap.size w w' := by
  have hq0 : 0 < ps.length := List.length_pos_of_mem hp
  obtain ⟨ad, rfl, hab, hc⟩ := hP.some_ hq0
  have H := Lib.hid (And.intro hl (And.intro hP (And.intro hp hc)))
  clear hl hP hp hc hq0
  go_enter Try.func68, Try.ntmps68
  go_wp2_with fail
  have hB0 : Blk (w.alloc (.cells #[.int .i64 (p.1 : Int), .int .i64 (p.2 : Int)] 38)) w.heap.size 38 #[.int .i64 (p.1 : Int), .int .i64 (p.2 : Int)] := Blk.new w _ _ rfl
  have hb0 : Below w.heap.size w (w.alloc (.cells #[.int .i64 (p.1 : Int), .int .i64 (p.2 : Int)] 38)) := (Below.refl _ _).alloc (Nat.le_refl _) _
  have H0 := Lib.hid (And.intro hB0 hb0)
  clear hB0 hb0
  go_loopw [8] (fun iv wr => ∃ k : Nat, k ≤ q ∧ iv = .int .i64 k ∧ p ∉ ps.take k ∧ Blk wr w.heap.size 38 #[.int .i64 (p.1 : Int), .int .i64 (p.2 : Int)] ∧ Below w.heap.size w wr) (fun iv _ => q - (intOf iv).toNat)
  case atStart => exact ⟨0, Nat.zero_le _, rfl, by simp, H0.out⟩
  case round =>
    obtain ⟨k, hk, rfl, hnm, hB, hbw⟩ := hrel
    have HR := Lib.hid (And.intro hnm (And.intro hB hbw))
    obtain ⟨b1, b2, _, _⟩ := hB.at2
    clear hnm hB hbw
    by_cases hlt : k < q
    · obtain ⟨r, hr⟩ : ∃ r, ps[k]? = some r := ⟨_, List.getElem?_eq_getElem (by have := H.out.1; omega)⟩
      obtain ⟨c1, c2⟩ := H.out.2.2.2 k r hr
      have c3 := (HR.out.2.2.cell (lt_of_cell c1)).trans c1
      have c4 := (HR.out.2.2.cell (lt_of_cell c2)).trans c2
      have HP := Lib.hid hr
      clear hr c1 c2
      by_cases he : p = r
      · have heq : ∀ w, (binOp .eql 38 (.agg #[.int .i64 (p.1 : Int), .int .i64 (p.2 : Int)]) (.agg #[.int .i64 (r.1 : Int), .int .i64 (r.2 : Int)])).run Try.prog w = .ok (.bool true) w := fun w => by
          rw [run_eql_pair]; simp [he]
        clear he
        go_wp2
        go_region
        all_goals go_wp2
        go_ret
        exact ⟨⟨k, rfl, hlt⟩, below_drewN HR.out.2.2 1⟩
      · have HNE := Lib.hid he
        have hne : ∀ w, (binOp .eql 38 (.agg #[.int .i64 (p.1 : Int), .int .i64 (p.2 : Int)]) (.agg #[.int .i64 (r.1 : Int), .int .i64 (r.2 : Int)])).run Try.prog w = .ok (.bool false) w := fun w => by
          rw [run_eql_pair]; simp [he]
        clear he
        go_wp2
        go_region
        all_goals go_wp2
        go_roundw
        case rel => exact ⟨k + 1, by omega, by go_num, by rw [List.take_add_one, HP.out, List.mem_append]; rintro (h | h); exact HR.out.1 h; exact HNE.out (by simpa using h), HR.out.2.1.drewN 1, below_drewN HR.out.2.2 1⟩
        case measure => simp [intOf]; omega
    · exfalso
      obtain rfl : k = q := by omega
      exact HR.out.1 (by rw [List.take_of_length_le (by have := H.out.1; omega)]; exact H.out.2.2.1)

set_option maxHeartbeats 800000 in
theorem containsP_any (A : Option Addr) (q c : Nat) (ps : List (Nat × Nat)) (p : Nat × Nat) (w : World) (hl : ps.length = q) (hq : q ≤ 1000) (hP : Pairs w A ps) (hp : p ∈ ps) :
    Calls Try.prog 36 #[.slice A q c, .agg #[.int .i64 (p.1 : Int), .int .i64 (p.2 : Int)]] w fun e w' => e = .returned (.bool true) ∧ Below w.heap.size w w' := by
  have H := Lib.hid (And.intro hl (And.intro hP hp))
  clear hl hP hp
  go_enter Try.func36, Try.ntmps36
  have hB0 : Blk (w.alloc (.cells #[.int .i64 (p.1 : Int), .int .i64 (p.2 : Int)] 38)) w.heap.size 38 #[.int .i64 (p.1 : Int), .int .i64 (p.2 : Int)] := Blk.new w _ _ rfl
  obtain ⟨b1, b2, _, _⟩ := hB0.at2
  have hb0 : Below w.heap.size w (w.alloc (.cells #[.int .i64 (p.1 : Int), .int .i64 (p.2 : Int)] 38)) := (Below.refl _ _).alloc (Nat.le_refl _) _
  have H0 := Lib.hid hb0
  clear hb0 hB0
  go_wp2_with fail
  refine (indexP_any A q c ps p _ H.out.1 hq (H.out.2.1.below H0.out) H.out.2.2).mono ?_
  rintro e w2 ⟨⟨k, rfl, hk⟩, hb2⟩
  have H2 := Lib.hid (H0.out.trans (hb2.mono H0.out.size))
  clear hb2
  go_wp2_with fail
  go_ret
  exact ⟨rfl, H2.out⟩

/- The memory of SplitNames: rows of one length, made one after another. -/

theorem info_ints0 : (Try.prog.info? 23).map (fun i => (i.zero, i.size, i.bytes)) = some (some (.slice none 0 0), 1, 24) := by kernel_rfl
/-- make([][]int, n). -/
theorem make_intss (n : Nat) (hn : n ≤ 1000000) (w : World) : (Instr.makeSlice 22 (.int .i64 n) (.int .i64 n)).run Try.prog w = .ok (.slice (some ⟨w.heap.size, 0, none⟩) n n) (w.alloc (.cells (Array.replicate n (Value.slice none 0 0)) 23)) := by
  obtain ⟨i0, hi, hz0, hz1, hz2⟩ := info_parts info_ints0
  have hr := run_make (P := Try.prog) w 22 23 i0 (.slice none 0 0) Try.underlying22 hi hz0 .i64 .i64 n n (by omega) (by omega) (by rw [hz2]; omega) (by omega)
  simp only [Int.toNat_natCast, hz1] at hr
  rw [hr]
  have e : madeCells (Value.slice none 0 0).cells (n * 1) = Array.replicate n (Value.slice none 0 0) := by
    apply Array.ext'
    show (madeCells #[Value.slice none 0 0] (n * 1)).toList = _
    rw [toList_madeCells_one]; simp
  rw [e]

/-- The outer cells while the rows are made. -/
def rowsT (B n m i : Nat) : Array Value := ((List.range n).map fun k => if k < i then Value.slice (some ⟨B + 1 + k, 0, none⟩) m m else .slice none 0 0).toArray
theorem rowsT_zero (B n m : Nat) : rowsT B n m 0 = Array.replicate n (Value.slice none 0 0) := by
  unfold rowsT
  rw [← List.toArray_replicate]
  congr 1
  apply List.ext_getElem
  · simp
  · intro i h1 h2; simp
theorem rowsT_get {B n m i k : Nat} (hk : k < n) (hi : k < i) : (rowsT B n m i)[k]? = some (.slice (some ⟨B + 1 + k, 0, none⟩) m m) := by
  simp [rowsT, hk, hi]
theorem rowsT_old {B n m i : Nat} (hi : i < n) : (rowsT B n m i)[i]? = some (.slice none 0 0) := by
  simp [rowsT, hi]
theorem rowsT_set {B n m i : Nat} (_hi : i < n) : (rowsT B n m i).setIfInBounds i (.slice (some ⟨B + 1 + i, 0, none⟩) m m) = rowsT B n m (i + 1) := by
  apply Array.ext'
  unfold rowsT
  simp only [List.setIfInBounds_toArray]
  apply List.ext_getElem
  · simp
  · intro k h1 h2
    rw [List.getElem_set]
    simp only [List.getElem_map, List.getElem_range]
    by_cases e : i = k
    · subst e; rw [if_pos rfl, if_pos (by omega)]
    · rw [if_neg e]
      by_cases h : k < i
      · rw [if_pos h, if_pos (by omega)]
      · rw [if_neg h, if_neg (by omega)]

/-- A row of m numbers. -/
def rowF (f : Nat → Int) (m : Nat) : List Int := (List.range m).map f
theorem rowF_length (f : Nat → Int) (m : Nat) : (rowF f m).length = m := by simp [rowF]
theorem rowF_get {f : Nat → Int} {m h : Nat} (hh : h < m) : (rowF f m)[h]? = some (f h) := by simp [rowF, hh]
theorem rowF_set {f : Nat → Int} {m h : Nat} {y : Int} : (rowF f m).set h y = rowF (fun x => if x = h then y else f x) m := by
  apply List.ext_getElem
  · simp [rowF]
  · intro k h1 h2
    rw [List.getElem_set]
    simp only [rowF, List.getElem_map, List.getElem_range]
    by_cases e : h = k
    · rw [if_pos e, if_pos e.symm]
    · rw [if_neg e, if_neg fun h => e h.symm]
theorem rowF_zero (m : Nat) : rowF (fun _ => 0) m = List.replicate m 0 := by
  apply List.ext_getElem
  · simp [rowF]
  · intro k h1 h2; simp [rowF]
/-- The rows of a matrix of n rows of m numbers, made from block B on. -/
def WM (w : World) (B n m : Nat) (F : Nat → Nat → Int) : Prop := Blk w B 23 (rowsT B n m n) ∧ ∀ k, k < n → Blk w (B + 1 + k) 3 (arr (rowF (F k) m))
section
variable {w w' : World} {B n m : Nat} {F : Nat → Nat → Int}
theorem WM.set_ (h : WM w B n m F) {k : Nat} (hk : k < n) (x : Nat) (y : Int) : WM (w.setCell ⟨B + 1 + k, x, none⟩ (.int .i64 y)) B n m (fun k' x' => if k' = k ∧ x' = x then y else F k' x') := by
  refine ⟨h.1.far (by show B ≠ B + 1 + k; omega) _, fun j hj => ?_⟩
  by_cases e : j = k
  · subst e
    have := (h.2 j hj).set_ x (.int .i64 y)
    rw [arr_set, rowF_set] at this
    simpa using this
  · have := (h.2 j hj).far (p := ⟨B + 1 + k, x, none⟩) (by show B + 1 + j ≠ B + 1 + k; omega) (.int .i64 y)
    simpa [e] using this
theorem WM.far (h : WM w B n m F) {p : Addr} (hp : B + n < p.block) (v : Value) : WM (w.setCell p v) B n m F :=
  ⟨h.1.far (by omega) _, fun j hj => (h.2 j hj).far (by omega) _⟩
theorem WM.drewN (h : WM w B n m F) (k : Nat) : WM (w.drewN k) B n m F := h
theorem WM.below {b : Nat} (h : WM w B n m F) (hb : Below b w w') (hB : B + n < b) : WM w' B n m F :=
  ⟨h.1.below hb (by omega), fun j hj => (h.2 j hj).below hb (by omega)⟩
theorem WM.outer (h : WM w B n m F) {k : Nat} (hk : k < n) : w.cell? ⟨B, k, none⟩ = some (.slice (some ⟨B + 1 + k, 0, none⟩) m m) := by
  rw [h.1.cell, rowsT_get hk hk]
theorem WM.inner (h : WM w B n m F) {k x : Nat} (hk : k < n) (hx : x < m) : w.cell? ⟨B + 1 + k, x, none⟩ = some (.int .i64 (F k x)) := by
  rw [(h.2 k hk).cell, arr_get, rowF_get hx]; rfl
theorem WM.mat (h : WM w B n m F) (hm : m ≤ 9223372036854775807) : Mat w (some ⟨B, 0, none⟩) ((List.range n).map fun k => rowF (F k) m) := by
  intro j r hj
  have hjn : j < n := by have := (List.getElem?_eq_some_iff.1 hj).1; simpa using this
  have hr : r = rowF (F j) m := by simpa [hjn] using hj.symm
  subst hr
  have ho : w.cell? ((⟨B, 0, none⟩ : Addr).add j) = some (.slice (some ⟨B + 1 + j, 0, none⟩) m m) := by
    have := h.outer hjn
    rw [← this]
    unfold Addr.add
    split
    · rename_i h0; subst h0; rfl
    · simp
  exact ⟨_, _, m, rfl, by rw [rowF_length]; exact ho, by rw [rowF_length]; exact Nat.le_refl _, hm, blk_ints (h.2 j hjn)⟩
theorem WM.congr {G : Nat → Nat → Int} (h : WM w B n m F) (he : ∀ k x, k < n → x < m → F k x = G k x) : WM w B n m G :=
  ⟨h.1, fun k hk => by
    have e : rowF (G k) m = rowF (F k) m := List.map_congr_left fun x hx => (he k x hk (List.mem_range.1 hx)).symm
    rw [e]; exact h.2 k hk⟩
end

/-- What is written when the goods before g, and of g the people before i, are done. -/
def FA (V : List (List Int)) (n m b o g i : Nat) : Nat → Nat → Int := fun k x => if back m o x < g ∨ (back m o x = g ∧ back n b k < i) then (rowV V (back n b k)).getD (back m o x) 0 else 0
def XA (d : List Int) (n m b o g : Nat) : Nat → Int := fun x => if back m o x < g then ((((d.getD (back m o x) 0).toNat + b) % n : Nat) : Int) else 0
theorem FA_zero (V : List (List Int)) (n m b o : Nat) : FA V n m b o 0 0 = fun _ _ => 0 := by
  funext k x; unfold FA; rw [if_neg (by omega)]
theorem XA_zero (d : List Int) (n m b o : Nat) : XA d n m b o 0 = fun _ => 0 := by
  funext x; unfold XA; rw [if_neg (by omega)]
theorem back_iff {n b i k : Nat} (hb : b < n) (hi : i < n) (hk : k < n) : k = (i + b) % n ↔ back n b k = i := by
  constructor
  · rintro rfl; exact back_forw hb hi
  · rintro rfl; exact (forw_back hb hk).symm
theorem FA_set {V : List (List Int)} {n m b o g i : Nat} (hb : b < n) (ho : o < m) (hi : i < n) (hg : g < m) : ∀ k x, k < n → x < m →
    (if k = (i + b) % n ∧ x = (g + o) % m then (rowV V i).getD g 0 else FA V n m b o g i k x) = FA V n m b o g (i + 1) k x := by
  intro k x hk hx
  have ek := back_iff hb hi hk
  have ex := back_iff ho hg hx
  unfold FA
  by_cases e : back n b k = i ∧ back m o x = g
  · rw [if_pos ⟨ek.2 e.1, ex.2 e.2⟩, if_pos (by omega), e.1, e.2]
  · rw [if_neg fun h => e ⟨ek.1 h.1, ex.1 h.2⟩]
    by_cases h : back m o x < g ∨ (back m o x = g ∧ back n b k < i)
    · rw [if_pos h, if_pos (by omega)]
    · rw [if_neg h, if_neg (by omega)]
theorem FA_next {V : List (List Int)} {n m b o g : Nat} (hn : 0 < n) : ∀ k x, k < n → x < m → FA V n m b o g n k x = FA V n m b o (g + 1) 0 k x := by
  intro k x _ _
  have := back_lt (n := n) (b := b) (k := k) hn
  unfold FA
  by_cases h : back m o x ≤ g
  · rw [if_pos (by omega), if_pos (by omega)]
  · rw [if_neg (by omega), if_neg (by omega)]
theorem XA_set {d : List Int} {n m b o g y : Nat} (ho : o < m) (hg : g < m) (hy : d.getD g 0 = (y : Int)) : (rowF (XA d n m b o g) m).set ((g + o) % m) (((y + b) % n : Nat) : Int) = rowF (XA d n m b o (g + 1)) m := by
  rw [rowF_set]
  refine List.map_congr_left fun x hx => ?_
  have hx := List.mem_range.1 hx
  have ex := back_iff ho hg hx
  unfold XA
  by_cases e : back m o x = g
  · rw [if_pos (ex.2 e), if_pos (by omega), e, hy]; rfl
  · rw [if_neg fun h => e (ex.1 h)]
    by_cases h : back m o x < g
    · rw [if_pos h, if_pos (by omega)]
    · rw [if_neg h, if_neg (by omega)]
theorem FA_all (V : List (List Int)) (n m b o : Nat) (hm : 0 < m) : ((List.range n).map fun k => rowF (FA V n m b o m 0 k) m) = rotV V n m b o := by
  unfold rotV
  refine List.map_congr_left fun k _ => List.map_congr_left fun x _ => ?_
  unfold FA
  rw [if_pos (.inl (back_lt hm))]
theorem XA_all (d : List Int) (n m b o : Nat) (hm : 0 < m) : rowF (XA d n m b o m) m = rotX d n m b o := by
  unfold rotX
  refine List.map_congr_left fun x _ => ?_
  unfold XA
  rw [if_pos (back_lt hm)]

/- A region that draws its order, whose operations read and whose calls may make memory of their own but hand back plain values: walked once, in the order of the text. No program. -/

/-- A world that came of w: what w holds reads in it as in w. -/
structure Desc (w : World) where
  val : World
  below : Below w.heap.size w val

instance descNonempty (w : World) : Nonempty (Desc w) := ⟨⟨w, Below.refl _ _⟩⟩

theorem wp_region_desc {P : Program} {id : Nat} {Q : Exit → Act → World → Prop} {a : Act} {w : World} {l : List Oper} (hm : P.follows .mixedOrders = true) (hB : Region.lexB .any l.toArray = true)
    (h : wpQuiet P l.toArray (fun w' => ∃ s : Desc w, w' = s.val) (fun a' => ∀ w', (∃ s : Desc w, w' = s.val) → Q .normal a' w') l a) : (Code.region id l.toArray true).wp P Q a w :=
  wp_region_quiet (C := fun w' => ∃ s : Desc w, w' = s.val) hm hB ⟨⟨_, (Below.refl _ _).drew⟩, rfl⟩ (by simpa using h)

theorem Calls.desc_of {P : Program} {f : FuncId} {args : Array Value} {w : World} {s : Desc w} {v : Value}
    (h : Calls P f args s.val fun e w' => e = .returned v ∧ Below s.val.heap.size s.val w') : Calls P f args s.val fun e w'' => e = .returned v ∧ ∃ s' : Desc w, w'' = s'.val :=
  h.mono fun _ w' ⟨he, hb⟩ => ⟨he, ⟨w', s.below.trans (hb.mono s.below.size)⟩, rfl⟩
theorem Calls.desc_of_drew {P : Program} {f : FuncId} {args : Array Value} {w : World} {s : Desc w} {v : Value}
    (h : Calls P f args s.val fun e w' => e = .returned v ∧ ∃ n, w' = s.val.drewN n) : Calls P f args s.val fun e w'' => e = .returned v ∧ ∃ s' : Desc w, w'' = s'.val :=
  h.mono fun _ _ ⟨he, n, hn⟩ => ⟨he, ⟨_, by subst hn; exact ⟨s.below.os, s.below.tape, s.below.output, s.below.size, s.below.block⟩⟩, rfl⟩
theorem Calls.desc_of_same {P : Program} {f : FuncId} {args : Array Value} {w : World} {s : Desc w} {v : Value}
    (h : Calls P f args s.val fun e w' => e = .returned v ∧ s.val = w') : Calls P f args s.val fun e w'' => e = .returned v ∧ ∃ s' : Desc w, w'' = s'.val :=
  h.mono fun _ _ ⟨he, hn⟩ => ⟨he, s, hn.symm⟩
theorem Desc.cell {w : World} (s : Desc w) {p : Addr} {v : Value} (h : w.cell? p = some v) : s.val.cell? p = some v := by
  rcases Nat.lt_or_ge p.block w.heap.size with hlt | hge
  · exact (s.below.cell hlt).trans h
  · simp [World.cell?, Array.getElem?_eq_none hge] at h

/- The walk of SplitNames: people and goods by other names. -/

theorem divV_bd3 {V : List (List Int)} {d : List Int} (h : divV V d = true) : ∀ x ∈ d, 0 ≤ x ∧ x < (V.length : Int) := by
  unfold divV at h
  simp only [Bool.and_eq_true, Bool.not_eq_true', List.any_eq_false] at h
  intro x hx
  have := h.2 x hx
  simp [badD] at this
  omega

set_option maxRecDepth 100000 in
set_option maxHeartbeats 6400000 in
theorem law_names (A : Option Addr) (n cap : Nat) (V : List (List Int)) (D : Option Addr) (nd capd : Nat) (d : List Int) (per by_ : Int) (w : World)
    (hl : V.length = n) (hc : n ≤ cap) (hm : cap ≤ 9223372036854775807) (hV : Mat w A V) (_hx : ∀ r ∈ V, ∀ x ∈ r, -9223372036854775808 ≤ x ∧ x ≤ 9223372036854775807)
    (hld : d.length = nd) (hcd : nd ≤ capd) (hmd : capd ≤ 9223372036854775807) (hD : Ints w D d) (_hxd : ∀ x ∈ d, -9223372036854775808 ≤ x ∧ x ≤ 9223372036854775807)
    (_hp : -9223372036854775808 ≤ per ∧ per ≤ 9223372036854775807) (_hby : -9223372036854775808 ≤ by_ ∧ by_ ≤ 9223372036854775807) :
    Calls Try.prog 10 #[.slice A n cap, .slice D nd capd, .int .i64 per, .int .i64 by_] w fun e w' => e = .returned (.bool true) ∧ Below w.heap.size w w' := by
  have H := Lib.hid (And.intro hl (And.intro hV (And.intro hld hD)))
  clear hl hV hld hD _hx _hxd
  go_enter Try.func10, Try.ntmps10
  go_wp2_with fail
  refine (few2_any A n cap V _ H.out.1 (by omega) H.out.2.1).mono ?_
  rintro e w1 ⟨A1, q1, c1, rfl, hq, hq6, hqc, hc1, hM, hb⟩
  have H1 := Lib.hid (And.intro hq (And.intro hM hb))
  clear hq hM hb
  go_wp2_with fail
  refine (lst_any D nd capd d _ H.out.2.2.1 hcd hmd (H.out.2.2.2.below H1.out.2.2)).mono ?_
  rintro e w2 ⟨A2, k2, c2, rfl, hk2, hk29, _, _, hI2, hb2⟩
  have H2 := Lib.hid (And.intro hk2 (And.intro hI2 (And.intro (H1.out.2.1.below hb2) (H1.out.2.2.trans (hb2.mono H1.out.2.2.size)))))
  clear hk2 hI2 hb2
  go_wp2_with fail
  refine (senvy0_any A1 A2 q1 c1 k2 c2 (fewV V) (d.take 9) w2 H1.out.1 (by omega) H2.out.2.2.1 H2.out.1 (by omega) H2.out.2.1).mono ?_
  rintro e w3 h3
  unfold EnvyPost0 at h3
  rw [divided_few] at h3
  obtain ⟨gd, hgd⟩ : ∃ gd, gd = (valV V && divV V d) := ⟨_, rfl⟩
  rw [← hgd] at h3
  obtain ⟨EA, ek, ec, ev, he, hres, hb3⟩ : ∃ EA ek ec ev, e = .returned (.tuple #[.slice EA ek ec, .int .i64 ev]) ∧ ((gd = false ∧ ek = 0 ∧ ev = 2) ∨ (gd = true ∧ ev = 0 ∧ (envL V d n).length = ek ∧ ek ≤ 1000 ∧ Pairs w3 EA (envL V d n))) ∧ Below w2.heap.size w2 w3 := by
    rcases h3 with ⟨hg, rfl, hb⟩ | ⟨hg, EA, ec, rfl, q1, q2, hb⟩
    · exact ⟨none, 0, 0, 2, rfl, .inl ⟨hg, rfl, rfl⟩, hb⟩
    · rw [hg] at hgd
      obtain ⟨_, _, e3, e4⟩ := good_few hgd.symm
      rw [e3, e4, H.out.1] at q1 q2 ⊢
      exact ⟨EA, _, ec, 0, rfl, .inr ⟨hg, rfl, rfl, q1, q2⟩, hb⟩
  subst he
  have H3 := Lib.hid (And.intro hgd (And.intro hres (H2.out.2.2.2.trans (hb3.mono H2.out.2.2.2.size))))
  clear h3 hgd hres hb3
  rcases H3.out.2.1 with ⟨rfl, rfl, rfl⟩ | ⟨rfl, rfl, hk3, hk31, hP⟩
  · go_wp2_with fail
    refine (awake2_any w w3 H3.out.2.2).mono ?_
    rintro e w8 ⟨rfl, hb8⟩
    have H8 := Lib.hid hb8
    clear hb8
    go_wp2_with fail
    go_ret
    exact ⟨rfl, H8.out⟩
  · obtain ⟨hv, hd, hfew, htake⟩ := good_few H3.out.1.symm
    have hv1 := valV_iff.1 hv
    have hn4 : 1 ≤ n ∧ n ≤ 4 := by rw [← H.out.1]; exact hv1.1
    obtain ⟨m, hm'⟩ : ∃ m, m = (rowV V 0).length := ⟨_, rfl⟩
    have hm7 : 1 ≤ m ∧ m ≤ 7 := by rw [hm']; exact hv1.2.1
    have hdm : nd = m := by rw [← H.out.2.2.1]; exact divV_len hd hm'
    subst hdm
    have hrows := valV_rows hv hm'
    rw [H.out.1] at hrows
    have HV := Lib.hid (And.intro hrows (And.intro hk3 (And.intro hP (And.intro hv (And.intro hd (And.intro hfew htake))))))
    clear hv hd hfew htake hv1 hm' hk3 hP hrows
    go_wp2_with fail
    refine (divided_any A D n cap nd capd V d w3 H.out.1 (by omega) (H.out.2.1.below H3.out.2.2) H.out.2.2.1 (by omega) (H.out.2.2.2.below H3.out.2.2)).mono ?_
    rintro e w7 ⟨rfl, rfl⟩
    rw [← H3.out.1]
    have hn0 : ¬ n = 0 := by omega
    obtain ⟨ad0, rfl, _, hcc0⟩ := (H.out.2.1.below H3.out.2.2).some_ (by have := H.out.1; omega)
    obtain ⟨A0, c0, h01, h02, h03, _⟩ := hcc0 0 _ (List.getElem?_eq_getElem (by have := H.out.1; omega))
    have er0 : (V[0]'(by have := H.out.1; omega)).length = nd := by rw [← rowV_get (List.getElem?_eq_getElem (by have := H.out.1; omega))]; exact (HV.out.1 0 (by omega)).1
    rw [er0] at h01
    have h01' : w3.cell? ad0 = some (.slice A0 nd c0) := h01
    clear hcc0 h01 h02 h03 er0
    go_wp2_with fail
    go_quiet (fail)
    go_wp2_with fail
    go_quiet (fail)
    have hmk := make_intss n (by omega)
    have hmk2 := make_ints nd (by omega)
    generalize hw5 : World.drewN (World.drewN w3 _) _ = w5
    obtain ⟨p, hpn, hpe⟩ := idx_of per (k := (n : Int)) (by omega) (by omega)
    obtain ⟨o, hon, hoe⟩ := idx_of by_ (k := (nd : Int)) (by omega) (by omega)
    rw [hpe, hoe]
    have hb5 : Below w.heap.size w w5 := by rw [← hw5]; exact below_drewN (below_drewN H3.out.2.2 _) _
    have hb53 : Below w3.heap.size w3 w5 := by rw [← hw5]; exact below_drewN (below_drewN (Below.refl _ _) _) _
    clear hw5 hpe hoe h01'
    obtain ⟨B, hB⟩ : ∃ B, B = w5.heap.size := ⟨_, rfl⟩
    have hBw : w.heap.size ≤ B := by have := hb5.size; omega
    have hBw3 : w3.heap.size ≤ B := by have := hb53.size; omega
    have hB0 : Blk (w5.alloc (.cells (Array.replicate n (Value.slice none 0 0)) 23)) B 23 (rowsT B n nd 0) := by rw [rowsT_zero]; exact Blk.new _ _ _ hB
    have hs0 : (w5.alloc (.cells (Array.replicate n (Value.slice none 0 0)) 23)).heap.size = B + 1 := by simp [hB]
    have H5 := Lib.hid (And.intro hB0 (And.intro hs0 (And.intro (hb5.alloc hb5.size (.cells (Array.replicate n (Value.slice none 0 0)) 23)) (hb53.alloc hb53.size (.cells (Array.replicate n (Value.slice none 0 0)) 23)))))
    clear hB0 hs0 hb5 hb53
    go_wp2_with fail
    rw [← hB]
    clear hB
    go_loopw [70] (fun iv wr => ∃ i : Nat, i ≤ n ∧ iv = .int .i64 i ∧ Blk wr B 23 (rowsT B n nd i) ∧ (∀ k, k < i → Blk wr (B + 1 + k) 3 (arr (rowF (fun _ => 0) nd))) ∧ wr.heap.size = B + 1 + i ∧ Below w.heap.size w wr ∧ Below w3.heap.size w3 wr) (fun iv _ => n - (intOf iv).toNat)
    case atStart => exact ⟨0, Nat.zero_le _, rfl, H5.out.1, fun k hk => by omega, H5.out.2.1, H5.out.2.2⟩
    case round =>
      obtain ⟨i, hi, rfl, hBo, hBr, hsz, hbw, hbw3⟩ := hrel
      have HR := Lib.hid (And.intro hBo (And.intro hBr (And.intro hsz (And.intro hbw hbw3))))
      clear hBo hBr hsz hbw hbw3
      by_cases hlt : i < n
      · have l1 : (i : Int) < (n : Int) := by omega
        have hA1 := HR.out.1.alloc (.cells (arr (List.replicate nd 0)) 3)
        have c1 : (wr.alloc (.cells (arr (List.replicate nd 0)) 3)).cell? ⟨B, i, none⟩ = some (.slice none 0 0) := by rw [hA1.cell, rowsT_old hlt]
        have f1 := hA1.frozen i
        have hN : Blk (wr.alloc (.cells (arr (List.replicate nd 0)) 3)) (B + 1 + i) 3 (arr (rowF (fun _ => 0) nd)) := by
          rw [rowF_zero]; exact Blk.new _ _ _ HR.out.2.2.1.symm
        have hA2 := hA1.set_ i (.slice (some ⟨B + 1 + i, 0, none⟩) nd nd)
        rw [rowsT_set hlt] at hA2
        have hrel' : Blk ((wr.alloc (.cells (arr (List.replicate nd 0)) 3)).setCell ⟨B, i, none⟩ (.slice (some ⟨wr.heap.size, 0, none⟩) nd nd)) B 23 (rowsT B n nd (i + 1)) ∧ (∀ k, k < i + 1 → Blk ((wr.alloc (.cells (arr (List.replicate nd 0)) 3)).setCell ⟨B, i, none⟩ (.slice (some ⟨wr.heap.size, 0, none⟩) nd nd)) (B + 1 + k) 3 (arr (rowF (fun _ => 0) nd))) ∧
            ((wr.alloc (.cells (arr (List.replicate nd 0)) 3)).setCell ⟨B, i, none⟩ (.slice (some ⟨wr.heap.size, 0, none⟩) nd nd)).heap.size = B + 1 + (i + 1) ∧ Below w.heap.size w ((wr.alloc (.cells (arr (List.replicate nd 0)) 3)).setCell ⟨B, i, none⟩ (.slice (some ⟨wr.heap.size, 0, none⟩) nd nd)) ∧ Below w3.heap.size w3 ((wr.alloc (.cells (arr (List.replicate nd 0)) 3)).setCell ⟨B, i, none⟩ (.slice (some ⟨wr.heap.size, 0, none⟩) nd nd)) := by
          rw [HR.out.2.2.1]
          refine ⟨hA2, fun k hk => ?_, ?_, ?_, ?_⟩
          · by_cases e : k = i
            · subst e; exact hN.far (by show B + 1 + k ≠ B; omega) _
            · exact ((HR.out.2.1 k (by omega)).alloc _).far (by show B + 1 + k ≠ B; omega) _
          · have := HR.out.2.2.1
            simp [World.setCell, this]; omega
          · exact (HR.out.2.2.2.1.alloc HR.out.2.2.2.1.size _).setCell hBw _
          · exact (HR.out.2.2.2.2.alloc HR.out.2.2.2.2.size _).setCell hBw3 _
        have HN := Lib.hid hrel'
        clear hA1 hN hA2 hrel'
        go_wp2_with fail
        go_roundw
        case rel => exact ⟨i + 1, by omega, by go_num, HN.out⟩
        case measure => simp [intOf]; omega
      · obtain rfl : n = i := by omega
        have hA1 := HR.out.1.alloc (.cells (arr (List.replicate nd 0)) 3)
        have hN : Blk (wr.alloc (.cells (arr (List.replicate nd 0)) 3)) (B + 1 + n) 3 (arr (rowF (fun _ => 0) nd)) := by
          rw [rowF_zero]; exact Blk.new _ _ _ HR.out.2.2.1.symm
        have hWM : WM (wr.alloc (.cells (arr (List.replicate nd 0)) 3)) B n nd (fun _ _ => 0) := ⟨hA1, fun k hk => (HR.out.2.1 k hk).alloc _⟩
        have HW := Lib.hid (And.intro hWM (And.intro hN (And.intro (HR.out.2.2.2.1.alloc HR.out.2.2.2.1.size (.cells (arr (List.replicate nd 0)) 3)) (HR.out.2.2.2.2.alloc HR.out.2.2.2.2.size (.cells (arr (List.replicate nd 0)) 3)))))
        have hwz := HR.out.2.2.1
        clear hA1 hN hWM
        go_wp2_with fail
        clear hwz
        have hF0 : FA V n nd p o 0 0 = fun _ _ => 0 := FA_zero V n nd p o
        have hX0 : XA d n nd p o 0 = fun _ => 0 := XA_zero d n nd p o
        go_loopw [83] (fun iv wr => ∃ g : Nat, g ≤ nd ∧ iv = .int .i64 g ∧ WM wr B n nd (FA V n nd p o g 0) ∧ Blk wr (B + 1 + n) 3 (arr (rowF (XA d n nd p o g) nd)) ∧ Below w.heap.size w wr ∧ Below w3.heap.size w3 wr) (fun iv _ => nd - (intOf iv).toNat)
        case atStart => exact ⟨0, Nat.zero_le _, rfl, by rw [hF0]; exact HW.out.1, by rw [hX0]; exact HW.out.2.1, HW.out.2.2⟩
        case round =>
          obtain ⟨g, hg, rfl, hwm, hx, hbw, hbw3⟩ := hrel
          clear hF0 hX0
          have HR2 := Lib.hid (And.intro hwm (And.intro hx (And.intro hbw hbw3)))
          clear hwm hx hbw hbw3
          by_cases hlt : g < nd
          · have hdl : d.length = nd := H.out.2.2.1
            obtain ⟨dad, rfl, hdc⟩ := (H.out.2.2.2.below HR2.out.2.2.1).some_ (by omega)
            obtain ⟨y, hy, hyn⟩ := getD_in (fun x hx => by have := divV_bd3 HV.out.2.2.2.2.1 x hx; rwa [H.out.1] at this) (n := n) (g := g) (show g < d.length by omega)
            have hyd : d[g]? = some (y : Int) := by
              rw [List.getD_eq_getElem?_getD, List.getElem?_eq_getElem (by omega)] at hy
              rw [List.getElem?_eq_getElem (by omega)]
              exact congrArg some hy
            have c1 := hdc.2 g _ hyd
            obtain ⟨x0, hx0⟩ : ∃ x0, x0 = (g + o) % nd := ⟨_, rfl⟩
            obtain ⟨y0, hy0⟩ : ∃ y0, y0 = (y + p) % n := ⟨_, rfl⟩
            have hx0l : x0 < nd := by rw [hx0]; exact Nat.mod_lt _ (by omega)
            have w2' : ((g : Int) + (o : Int)) % (nd : Int) = (x0 : Int) := by rw [hx0, Int.natCast_emod, Int.natCast_add]
            have w4' : ((y : Int) + (p : Int)) % (n : Int) = (y0 : Int) := by rw [hy0, Int.natCast_emod, Int.natCast_add]
            have hnd0 : ¬ nd = 0 := by omega
            have c2 : wr.cell? ⟨B + 1 + n, x0, none⟩ = some (.int .i64 (XA d n nd p o g x0)) := by rw [HR2.out.2.1.cell, arr_get, rowF_get hx0l]; rfl
            have f2 := HR2.out.2.1.frozen x0
            have l2 : (x0 : Int) < (nd : Int) := by omega
            have l3 : (0 : Int) ≤ (x0 : Int) := by omega
            have HY := Lib.hid (And.intro hy (And.intro hx0 hy0))
            clear hdl hdc hy hyd hx0 hy0
            go_wp2_with fail
            go_region
            all_goals go_wp2_with fail
            have hxs := HR2.out.2.1.set_ x0 (.int .i64 (y0 : Int))
            rw [arr_set, HY.out.2.1, HY.out.2.2, XA_set (by omega) hlt HY.out.1, ← HY.out.2.1, ← HY.out.2.2] at hxs
            have hin : WM (wr.setCell ⟨B + 1 + n, x0, none⟩ (.int .i64 (y0 : Int))).drew B n nd (FA V n nd p o g 0) ∧ Blk (wr.setCell ⟨B + 1 + n, x0, none⟩ (.int .i64 (y0 : Int))).drew (B + 1 + n) 3 (arr (rowF (XA d n nd p o (g + 1)) nd)) ∧ Below w.heap.size w (wr.setCell ⟨B + 1 + n, x0, none⟩ (.int .i64 (y0 : Int))).drew ∧ Below w3.heap.size w3 (wr.setCell ⟨B + 1 + n, x0, none⟩ (.int .i64 (y0 : Int))).drew :=
              ⟨(HR2.out.1.far (by show B + n < B + 1 + n; omega) _).drewN 1, hxs.drewN 1, below_drewN (HR2.out.2.2.1.setCell (by show w.heap.size ≤ B + 1 + n; omega) _) 1, below_drewN (HR2.out.2.2.2.setCell (by show w3.heap.size ≤ B + 1 + n; omega) _) 1⟩
            have HIN := Lib.hid hin
            clear hxs hin c2 f2
            go_loopw [102] (fun iv wr => ∃ i : Nat, i ≤ n ∧ iv = .int .i64 i ∧ WM wr B n nd (FA V n nd p o g i) ∧ Blk wr (B + 1 + n) 3 (arr (rowF (XA d n nd p o (g + 1)) nd)) ∧ Below w.heap.size w wr ∧ Below w3.heap.size w3 wr) (fun iv _ => n - (intOf iv).toNat)
            case atStart => exact ⟨0, Nat.zero_le _, rfl, HIN.out⟩
            case round =>
              obtain ⟨i, hi, rfl, hwm, hx, hbw, hbw3⟩ := hrel
              have HR3 := Lib.hid (And.intro hwm (And.intro hx (And.intro hbw hbw3)))
              clear hwm hx hbw hbw3
              by_cases hlti : i < n
              · obtain ⟨k0, hk0⟩ : ∃ k0, k0 = (i + p) % n := ⟨_, rfl⟩
                have hk0l : k0 < n := by rw [hk0]; exact Nat.mod_lt _ (by omega)
                have w5' : ((i : Int) + (p : Int)) % (n : Int) = (k0 : Int) := by rw [hk0, Int.natCast_emod, Int.natCast_add]
                have hri := HV.out.1 i hlti
                have hLi : V[i]? = some (rowV V i) := by
                  have : i < V.length := by rw [H.out.1]; exact hlti
                  rw [List.getElem?_eq_getElem this, rowV_get (List.getElem?_eq_getElem this)]
                obtain ⟨ad1, A', c', hA1, e1, _, _, e4⟩ := (H.out.2.1.below HR3.out.2.2.1) i _ hLi
                injection hA1 with hA1
                subst hA1
                rw [hri.1] at e1
                obtain ⟨ad2, rfl, _, e5⟩ := e4.some_ (by rw [hri.1]; omega)
                obtain ⟨z, hz⟩ : ∃ z, (rowV V i)[g]? = some z := ⟨_, List.getElem?_eq_getElem (by rw [hri.1]; exact hlt)⟩
                have e6 := e5 g z hz
                have e7 := HR3.out.1.outer hk0l
                have e8 := HR3.out.1.inner hk0l hx0l
                have f8 := (HR3.out.1.2 k0 hk0l).frozen x0
                have l4 : (i : Int) < (n : Int) := by omega
                have l5 : (g : Int) < (nd : Int) := by omega
                have l6 : (k0 : Int) < (n : Int) := by omega
                have l7 : (0 : Int) ≤ (k0 : Int) := by omega
                have hzg : (rowV V i).getD g 0 = z := by rw [List.getD_eq_getElem?_getD, hz]; rfl
                have hset := HR3.out.1.set_ hk0l x0 z
                have hset2 : WM (wr.setCell ⟨B + 1 + k0, x0, none⟩ (.int .i64 z)) B n nd (FA V n nd p o g (i + 1)) := hset.congr fun k x hk hx => by
                  rw [HY.out.2.1, hk0, ← hzg]
                  exact FA_set (by omega) (by omega) hlti hlt k x hk hx
                have HS := Lib.hid (And.intro hset2 (HR3.out.2.1.far (p := ⟨B + 1 + k0, x0, none⟩) (by show B + 1 + n ≠ B + 1 + k0; omega) (.int .i64 z)))
                clear hk0 hri hLi e4 e5 hz hzg hset hset2
                go_wp2_with fail
                go_region
                all_goals go_wp2_with fail
                go_roundw
                case rel => exact ⟨i + 1, by omega, by go_num, HS.out.1.drewN 1, HS.out.2.drewN 1, below_drewN (HR3.out.2.2.1.setCell (by show w.heap.size ≤ B + 1 + k0; omega) _) 1, below_drewN (HR3.out.2.2.2.setCell (by show w3.heap.size ≤ B + 1 + k0; omega) _) 1⟩
                case measure => simp [intOf]; omega
              · obtain rfl : n = i := by omega
                have HS := Lib.hid (HR3.out.1.congr (FA_next (by omega)))
                go_wp2_with fail
                go_roundw
                case rel => exact ⟨g + 1, by omega, by go_num, HS.out, HR3.out.2⟩
                case measure => simp [intOf]; omega
          · obtain rfl : nd = g := by omega
            have hwm := HR2.out.1.mat (by omega)
            rw [FA_all V n nd p o (by omega)] at hwm
            have hxi := blk_ints HR2.out.2.1
            rw [XA_all d n nd p o (by omega)] at hxi
            obtain ⟨V2, hV2⟩ : ∃ V2, V2 = rotV V n nd p o := ⟨_, rfl⟩
            obtain ⟨d2, hd2⟩ : ∃ d2, d2 = rotX d n nd p o := ⟨_, rfl⟩
            rw [← hV2] at hwm
            rw [← hd2] at hxi
            have hdb : ∀ x ∈ d, 0 ≤ x ∧ x < (n : Int) := fun x hx => by have := divV_bd3 HV.out.2.2.2.2.1 x hx; rwa [H.out.1] at this
            have hpn' : p < n := by omega
            have hon' : o < nd := by omega
            have hl2 : V2.length = n := by rw [hV2]; exact rotV_length
            have hdl2 : d2.length = nd := by rw [hd2]; exact rotX_length
            have hvd := rot_valid (V := V) (d := d) (b := p) (o := o) hn4 hm7 HV.out.1
            rw [← hV2, ← hd2] at hvd
            have hfair := fun kind => rot_fair (V := V) (d := d) hpn' hon' hdb H.out.2.2.1 (fun i hi => (HV.out.1 i hi).1) kind
            rw [← hV2, ← hd2] at hfair
            have hcnt := rot_count (V := V) (d := d) hpn' hon' hdb H.out.2.2.1
            rw [← hV2, ← hd2, HV.out.2.1] at hcnt
            have hmem := fun q (hq : q ∈ envL V d n) => rot_mem (V := V) (d := d) hpn' hon' hdb H.out.2.2.1 hq
            rw [← hV2, ← hd2] at hmem
            have HM := Lib.hid (And.intro hwm (And.intro hxi (And.intro hl2 (And.intro hdl2 (And.intro hvd (And.intro hfair (And.intro hcnt hmem)))))))
            clear hwm hxi hV2 hd2 hdb hl2 hdl2 hvd hfair hcnt hmem
            go_wp2_with fail
            refine (senvy0_any (some ⟨B, 0, none⟩) (some ⟨B + 1 + n, 0, none⟩) n n nd nd V2 d2 wr HM.out.2.2.1 (by omega) HM.out.1 HM.out.2.2.2.1 (by omega) HM.out.2.1).mono ?_
            rintro e w6 h6
            unfold EnvyPost0 at h6
            rw [HM.out.2.2.2.2.1.1, HM.out.2.2.2.2.1.2, HM.out.2.2.1, HM.out.2.2.2.2.2.2.1] at h6
            rcases h6 with ⟨h, _⟩ | ⟨_, EB, eb, rfl, _, hPB, hb6⟩
            · cases h
            have H6 := Lib.hid (And.intro hPB (And.intro (HR2.out.2.2.1.trans (hb6.mono HR2.out.2.2.1.size)) (And.intro (HM.out.1.below hb6) (And.intro (HM.out.2.1.below hb6) ((HV.out.2.2.1.below HR2.out.2.2.2).below hb6)))))
            clear hPB hb6
            go_wp2_with fail
            go_loopw [145] (fun iv wz => ∃ i : Nat, i ≤ ek ∧ iv = .int .i64 i ∧ Below w6.heap.size w6 wz) (fun iv _ => ek - (intOf iv).toNat)
            case atStart => exact ⟨0, Nat.zero_le _, rfl, Below.refl _ _⟩
            case round =>
              obtain ⟨i, hi, rfl, hbz⟩ := hrel
              have HZ := Lib.hid hbz
              clear hbz
              by_cases hlti : i < ek
              · obtain ⟨q, hq⟩ : ∃ q, (envL V d n)[i]? = some q := ⟨_, List.getElem?_eq_getElem (by rw [HV.out.2.1]; exact hlti)⟩
                obtain ⟨ea, hea, _, hec⟩ := (H6.out.2.2.2.2.below HZ.out).some_ (by rw [HV.out.2.1]; omega)
                obtain ⟨g1, g2⟩ := hec i q hq
                have hqm := mem_envL.1 (List.mem_of_getElem? hq)
                have hin := HM.out.2.2.2.2.2.2.2 q (List.mem_of_getElem? hq)
                obtain ⟨r1, hr1⟩ : ∃ r1, r1 = (q.1 + p) % n := ⟨_, rfl⟩
                obtain ⟨r2, hr2⟩ : ∃ r2, r2 = (q.2 + p) % n := ⟨_, rfl⟩
                have w7' : ((q.1 : Int) + (p : Int)) % (n : Int) = (r1 : Int) := by rw [hr1, Int.natCast_emod, Int.natCast_add]
                have w8' : ((q.2 : Int) + (p : Int)) % (n : Int) = (r2 : Int) := by rw [hr2, Int.natCast_emod, Int.natCast_add]
                rw [← hr1, ← hr2] at hin
                have hq1 : q.1 < n := hqm.1
                have hq2 : q.2 < n := hqm.2.1
                have HQ := Lib.hid hin
                subst hea
                clear hq hec hqm hr1 hr2 hin
                go_wp2_with fail
                obtain ⟨w9, hw9⟩ : ∃ w9, w9 = wr.alloc (.cells #[.int .i64 (q.1 : Int), .int .i64 (q.2 : Int)] 38) := ⟨_, rfl⟩
                rw [← hw9]
                have hBq : Blk w9 wr.heap.size 38 #[.int .i64 (q.1 : Int), .int .i64 (q.2 : Int)] := by rw [hw9]; exact Blk.new _ _ _ rfl
                obtain ⟨b1, b2, _, _⟩ := hBq.at2
                have h69 : Below w6.heap.size w6 w9 := by rw [hw9]; exact HZ.out.alloc HZ.out.size _
                have HCT : Hid (∀ s : Desc w9, Calls Try.prog 36 #[.slice EB ek eb, .agg #[.int .i64 (r1 : Int), .int .i64 (r2 : Int)]] s.val fun e w'' => e = .returned (.bool true) ∧ ∃ s' : Desc w9, w'' = s'.val) := Lib.hid fun s =>
                  Calls.desc_of (containsP_any EB ek eb (envL V2 d2 n) (r1, r2) _ HM.out.2.2.2.2.2.2.1 hk31 (At.keep (H6.out.1.below h69) fun p v hp => s.cell hp) HQ.out)
                have d1 : ∀ s : Desc w9, s.val.cell? ⟨wr.heap.size, 0, none⟩ = some (.int .i64 (q.1 : Int)) := fun s => s.cell b1
                have d2 : ∀ s : Desc w9, s.val.cell? ⟨wr.heap.size, 1, none⟩ = some (.int .i64 (q.2 : Int)) := fun s => s.cell b2
                have H9 := Lib.hid h69
                clear hw9 hBq h69 b1 b2
                refine wp_region_desc (by kernel_rfl) (by kernel_rfl) ?_
                repeat (go_big_quiet_step ((go_at_call 36; exact HCT.out _)))
                refine wpQuiet_nil ?_
                rintro _ ⟨sd, rfl⟩
                have HB4 := Lib.hid (H9.out.trans (sd.below.mono H9.out.size))
                clear d1 d2
                go_wp2_with fail
                go_round
                case rel => exact ⟨i + 1, by omega, by go_num, HB4.out⟩
                case measure => simp [intOf]; omega
              · obtain rfl : ek = i := by omega
                go_wp2_with fail
                go_loopw [166] (fun iv wz => ∃ i : Nat, i ≤ 5 ∧ iv = .int .i64 i ∧ Below w6.heap.size w6 wz) (fun iv _ => 5 - (intOf iv).toNat)
                case atStart => exact ⟨0, Nat.zero_le _, rfl, HZ.out⟩
                case round =>
                  obtain ⟨i, hi5, rfl, hbz⟩ := hrel
                  have HZ2 := Lib.hid (And.intro hbz (H6.out.2.1.trans (hbz.mono H6.out.2.1.size)))
                  clear hbz
                  by_cases hlti2 : i < 5
                  · have l2 : (i : Int) < 5 := by omega
                    go_wp2_with fail
                    refine (few2_any _ n cap V _ H.out.1 (by omega) (H.out.2.1.below HZ2.out.2)).mono ?_
                    rintro e w18 ⟨A18, q18, c18, rfl, hq, hq618, hqc18, hc18, hM, hb⟩
                    have H18 := Lib.hid (And.intro hq (And.intro hM hb))
                    clear hq hM hb
                    go_wp2_with fail
                    refine (lst_any D nd capd d _ H.out.2.2.1 hcd hmd ((H.out.2.2.2.below HZ2.out.2).below H18.out.2.2)).mono ?_
                    rintro e w19 ⟨A19, k19, c19, rfl, hk19, hk199, _, _, hI19, hb19⟩
                    have H19 := Lib.hid (And.intro hk19 (And.intro hI19 (And.intro (H18.out.2.1.below hb19) (H18.out.2.2.trans (hb19.mono H18.out.2.2.size)))))
                    clear hk19 hI19 hb19
                    go_wp2_with fail
                    refine (sfair0_any A18 A19 q18 c18 k19 c19 (i : Int) (fewV V) (d.take 9) w19 H18.out.1 (by omega) H19.out.2.2.1 H19.out.1 (by omega) H19.out.2.1).mono ?_
                    rintro e w20 h20
                    unfold FairPost0 at h20
                    rw [divided_few, ← H3.out.1, decide_eq_true (show (0 : Int) ≤ (i : Int) by omega), decide_eq_true (show (i : Int) ≤ 4 by omega), Bool.and_true, Bool.and_true, HV.out.2.2.2.2.2.1, HV.out.2.2.2.2.2.2, H.out.1] at h20
                    obtain ⟨fb, hfb⟩ : ∃ fb, fb = fairB V d n (i : Int) := ⟨_, rfl⟩
                    rw [← hfb] at h20
                    rcases h20 with ⟨h, _⟩ | ⟨_, rfl, hb20⟩
                    · cases h
                    have H20 := Lib.hid (And.intro hfb (H19.out.2.2.2.trans (hb20.mono H19.out.2.2.2.size)))
                    clear hfb hb20
                    go_wp2_with fail
                    refine (sfair0_any (some ⟨B, 0, none⟩) (some ⟨B + 1 + n, 0, none⟩) n n nd nd (i : Int) V2 d2 w20 HM.out.2.2.1 (by omega) ((H6.out.2.2.1.below HZ2.out.1).below H20.out.2) HM.out.2.2.2.1 (by omega) ((H6.out.2.2.2.1.below HZ2.out.1).below H20.out.2)).mono ?_
                    rintro e w22 h22
                    unfold FairPost0 at h22
                    rw [HM.out.2.2.2.2.1.1, HM.out.2.2.2.2.1.2, decide_eq_true (show (0 : Int) ≤ (i : Int) by omega), decide_eq_true (show (i : Int) ≤ 4 by omega), HM.out.2.2.1, HM.out.2.2.2.2.2.1 (i : Int), ← H20.out.1] at h22
                    rcases h22 with ⟨h, _⟩ | ⟨_, rfl, hb22⟩
                    · cases h
                    have H22 := Lib.hid (H20.out.2.trans (hb22.mono H20.out.2.size))
                    have hff : (fb == fb) = true := by simp
                    clear hb22
                    go_wp2_with fail
                    go_round
                    case rel => exact ⟨i + 1, by omega, by go_num, HZ2.out.1.trans (H22.out.mono HZ2.out.1.size)⟩
                    case measure => simp [intOf]; omega
                  · obtain rfl : i = 5 := by omega
                    go_wp2_with fail
                    refine (awake2_any w _ HZ2.out.2).mono ?_
                    rintro e w26 ⟨rfl, hb26⟩
                    have H26 := Lib.hid hb26
                    clear hb26
                    go_wp2_with fail
                    go_ret
                    exact ⟨rfl, H26.out⟩
end Go.Proofs.Ytkljambjdiblkaa
