/- Contract: the inner function of share (package split), whole. -/
import Derived.Test.YtkljambjdiblkaaSTry
namespace Go.Proofs.Ytkljambjdiblkaa
open Go.RowKit

/-- What holds at the head of a round. -/
def SX.rel (X : SX) (g u : Nat) (x : Int) (dl s : List Int) (b : Int) (p : Nat) (wr : World) : Prop :=
  ∃ dl' : List Int, (∀ i, i < g → dl'.getD i 0 = dl.getD i 0) ∧ X.st dl' s (max b (maxTo (fun p => sh (X.l.drop (g + 1)) (addA s p x) (max u (p + 1))) p)) wr

set_option maxRecDepth 100000 in
set_option maxHeartbeats 3200000 in
theorem try_any (X : SX) (hx : X.ok) (r : Nat) : ∀ (g u : Nat) (dl s : List Int) (b : Int) (w : World), g + r = X.m → u ≤ 7 → X.st dl s b w → s = sumsTo X.l dl X.n g → (∀ i, i < g → 0 ≤ dl.getD i 0 ∧ dl.getD i 0 < X.n) →
    Calls Try.prog 92 #[.int .i64 g, .int .i64 u, .pointer (some ⟨X.B, 0, none⟩), .pointer (some ⟨X.B + 7, 0, none⟩), .pointer (some ⟨X.B + 2, 0, none⟩), .pointer (some ⟨X.B + 5, 0, none⟩), .pointer (some ⟨X.B + 3, 0, none⟩), .pointer (some ⟨X.B + 1, 0, none⟩), .pointer (some ⟨X.B + 8, 0, none⟩)] w (X.post g u dl s b) := by
  induction r with
  | zero =>
    intro g u dl s b w hg hu hst hs hd
    obtain rfl : g = X.m := by omega
    exact try_full X hx u dl s b w hst hs hd
  | succ r ih =>
    intro g u dl s b w hg hu hst hs hd
    have IH := Lib.hid ih
    have hm7 := hx.hm
    have hn7 := hx.hn
    have hgm : ((g : Int) == (X.m : Int)) = false := by rw [beq_eq_false_iff_ne]; omega
    obtain ⟨x, hxg⟩ : ∃ x, X.l[g]? = some x := ⟨_, List.getElem?_eq_getElem (by rw [hx.hl]; omega)⟩
    have hxb := hx.hlb x (List.mem_of_getElem? hxg)
    obtain ⟨ad', had, hcx⟩ := hx.hI g (.int .i64 x) (by rw [List.getElem?_map, hxg]; rfl)
    injection had with had
    subst had
    have hdrop : X.l.drop g = x :: X.l.drop (g + 1) := by
      have h := (List.getElem?_eq_some_iff.1 hxg)
      rw [List.drop_eq_getElem_cons h.1, h.2]
    obtain ⟨K, hK⟩ : ∃ K : Nat, K = min (u + 1) X.n := ⟨_, rfl⟩
    have hK2 : min ((u : Int) + 1) (X.n : Int) = (K : Int) := by omega
    have hK3 : 1 ≤ K ∧ K ≤ X.n := by omega
    have hsh : sh (X.l.drop g) s u = maxTo (fun p => sh (X.l.drop (g + 1)) (addA s p x) (max u (p + 1))) K := by rw [hdrop, hK, ← hst.sl]; rfl
    have hxd : X.l.getD g 0 = x := by rw [List.getD_eq_getElem?_getD, hxg]; rfl
    obtain ⟨a1, b1⟩ := hst.bl.at1
    obtain ⟨a2, b2⟩ := hst.bn.at1
    have H := Lib.hid (And.intro hst (And.intro hs (And.intro hd (And.intro hsh (And.intro hx (And.intro hcx hxd))))))
    have hbm := hst.bm
    clear hst hs hd hsh hx hxg hdrop hxd ih hK hcx
    go_enter Try.func92, Try.ntmps92
    go_wp2_with fail
    all_goals
      clear a1 b1 a2 b2
      go_loopw [29] (fun pv wr => ∃ p : Nat, p ≤ K ∧ pv = .int .i64 p ∧ X.rel g u x dl s b p wr) (fun pv _ => K - (intOf pv).toNat)
      case atStart => exact ⟨0, Nat.zero_le _, rfl, dl, fun _ _ => rfl, by rw [show max b (maxTo (fun p => sh (X.l.drop (g + 1)) (addA s p x) (max u (p + 1))) 0) = b from Int.max_eq_left hbm]; exact H.out.1⟩
      case round =>
        obtain ⟨p, hp, rfl, dl1, hag, hst1⟩ := hrel
        by_cases hlt : p < K
        · have l1 : (p : Int) < (X.n : Int) := by omega
          have l2 : (p : Int) < (u : Int) + 1 := by omega
          have l3 : (g : Int) < (X.m : Int) := by omega
          have HM : Hid (maxTo (fun p => sh (X.l.drop (g + 1)) (addA s p x) (max u (p + 1))) (p + 1) = max (maxTo (fun p => sh (X.l.drop (g + 1)) (addA s p x) (max u (p + 1))) p) (sh (X.l.drop (g + 1)) (addA s p x) (max u (p + 1)))) := Lib.hid rfl
          obtain ⟨mv, hmv⟩ : ∃ mv, mv = maxTo (fun p => sh (X.l.drop (g + 1)) (addA s p x) (max u (p + 1))) p := ⟨_, rfl⟩
          rw [← hmv] at hst1 HM
          have HP := Lib.hid (And.intro hag (And.intro hst1 hmv))
          obtain ⟨c1, f1⟩ := hst1.bD.at1
          have f2 := hst1.bd.frozen g
          obtain ⟨zz, hzz⟩ : ∃ zz, (arr dl1)[g]? = some zz := ⟨_, Array.getElem?_eq_getElem (by rw [arr_size, hst1.dll]; omega)⟩
          have c2 : wr.cell? ⟨X.B + 4, g, none⟩ = some zz := by rw [hst1.bd.cell, hzz]
          have st2 := hst1.put g (p : Int)
          clear hag hst1 hmv hzz
          go_wp2_with fail
          clear c1 f1 c2 f2
          generalize wr.setCell ⟨X.B + 4, g, none⟩ (.int .i64 (p : Int)) = w2 at st2 ⊢
          obtain ⟨c1, _⟩ := st2.bl.at1
          obtain ⟨c2, _⟩ := st2.bS.at1
          have hz : s[p]? = some (s.getD p 0) := getD_get (by rw [st2.sl]; omega)
          obtain ⟨z, hze⟩ : ∃ z, z = s.getD p 0 := ⟨_, rfl⟩
          rw [← hze] at hz
          have c3 : w2.cell? ⟨X.B + 6, p, none⟩ = some (.int .i64 z) := by rw [st2.bs.cell, arr_get, hz]; rfl
          have f3 := st2.bs.frozen p
          have c4 : w2.cell? (X.ad.add g) = some (.int .i64 x) := (st2.bel.cell (by rw [H.out.2.2.2.2.1.hB]; exact lt_of_cell H.out.2.2.2.2.2.1)).trans H.out.2.2.2.2.2.1
          have hzb : 0 ≤ z ∧ z ≤ 100 * (g : Nat) := by rw [hze, H.out.2.1]; exact sumsTo_bd H.out.2.2.2.2.1.hlb g p (by omega)
          have st3 := (st2.sum p (z + x)).drew
          have hadd : s.set p (z + x) = addA s p x := by unfold addA; rw [← hze]
          rw [hadd] at st3
          have HZ := Lib.hid (And.intro hze (And.intro st3 st2))
          clear hz hze st2 st3 hadd
          go_wp2_with fail
          go_region
          obtain ⟨c5, _⟩ := (HZ.out.2.1).bt.at1
          unfold SX.caps at c5
          generalize (w2.setCell ⟨X.B + 6, p, none⟩ (.int .i64 (z + x))).drew = w3 at HZ c5 ⊢
          clear c1 c2 c3 f3 c4
          have hrec : ∀ (gv uv : Int), gv = ((g + 1 : Nat) : Int) → uv = ((max u (p + 1) : Nat) : Int) →
              Calls Try.prog 92 #[.int .i64 gv, .int .i64 uv, .pointer (some ⟨X.B, 0, none⟩), .pointer (some ⟨X.B + 7, 0, none⟩), .pointer (some ⟨X.B + 2, 0, none⟩), .pointer (some ⟨X.B + 5, 0, none⟩), .pointer (some ⟨X.B + 3, 0, none⟩), .pointer (some ⟨X.B + 1, 0, none⟩), .pointer (some ⟨X.B + 8, 0, none⟩)] w3 (X.post (g + 1) (max u (p + 1)) (dl1.set g (p : Int)) (addA s p x) (max b mv)) := by
            intro gv uv e1 e2
            subst e1 e2
            have hag := HP.out.1
            have hd := H.out.2.2.1
            have hl1 : g < dl1.length := by have := HP.out.2.1.dll; omega
            refine IH.out (g + 1) _ _ _ _ w3 (by omega) (by omega) HZ.out.2.1 ?_ ?_
            · have e3 : sumsTo X.l (dl1.set g (p : Int)) X.n g = sumsTo X.l dl X.n g := sumsTo_congr fun i hi => by rw [getD_set _ _ _ _ hl1, if_neg (by omega)]; exact hag i hi
              rw [sumsTo, e3, ← H.out.2.1, getD_set _ _ _ _ hl1, if_pos rfl, Int.toNat_natCast, H.out.2.2.2.2.2.2]
            · intro i hi
              rw [getD_set _ _ _ _ hl1]
              by_cases e : i = g
              · rw [if_pos e]; omega
              · rw [if_neg e, hag i (by omega)]; exact hd i (by omega)
          have REC := Lib.hid hrec
          clear hrec
          go_wp2_with fail
          all_goals
            refine Calls.mono (REC.out _ _ ?_ ?_) ?_
            · omega
            · omega
          all_goals
            rintro e w4 ⟨rfl, dl2, hag2, st4⟩
            clear c5
            obtain ⟨c1, _⟩ := st4.bl.at1
            obtain ⟨c2, _⟩ := st4.bS.at1
            obtain ⟨y, hy⟩ : ∃ y, y = z + x := ⟨_, rfl⟩
            have hsl : s.length = X.n := H.out.1.sl
            have hyz : (addA s p x)[p]? = some y := by rw [addA_get s p p x (by omega), if_pos rfl, hy, HZ.out.1]
            have c3 : w4.cell? ⟨X.B + 6, p, none⟩ = some (.int .i64 y) := by rw [st4.bs.cell, arr_get, hyz]; rfl
            have f3 := st4.bs.frozen p
            have c4 : w4.cell? (X.ad.add g) = some (.int .i64 x) := (st4.bel.cell (by rw [H.out.2.2.2.2.1.hB]; exact lt_of_cell H.out.2.2.2.2.2.1)).trans H.out.2.2.2.2.2.1
            have hyb : 0 ≤ y ∧ y ≤ 1000 := by omega
            have st5 := (st4.sum p (y - x)).drew
            have hback : (addA s p x).set p (y - x) = s := by
              have h := addA_back s p x
              unfold addA at h ⊢
              rw [← HZ.out.1] at h ⊢
              rw [hy, show z + x - x = z by omega]
              rw [List.set_set] at h ⊢
              rw [HZ.out.1, List.getD_eq_getElem?_getD, List.getElem?_eq_getElem (by omega)]
              simp
            rw [hback] at st5
            have HM2 : Hid (max b (maxTo (fun p => sh (X.l.drop (g + 1)) (addA s p x) (max u (p + 1))) (p + 1)) = max (max b mv) (sh (X.l.drop (g + 1)) (addA s p x) (max u (p + 1)))) := Lib.hid (by rw [HM.out]; omega)
            have H5 := Lib.hid (And.intro st5 hag2)
            clear hy hyz hsl st4 st5 hback hag2
            go_wp2_with fail
            go_region
            generalize (w4.setCell ⟨X.B + 6, p, none⟩ (.int .i64 (y - x))).drew = w5 at H5 ⊢
            clear c1 c2 c3 f3 c4
            go_wp2_with fail
            go_roundw
            case rel =>
              refine ⟨p + 1, by omega, by go_num, dl2, fun i hi => ?_, ?_⟩
              · have hl1 : g < dl1.length := by have := HP.out.2.1.dll; omega
                rw [H5.out.2 i (by omega), getD_set _ _ _ _ hl1, if_neg (by omega)]
                exact HP.out.1 i hi
              · rw [HM2.out]; exact H5.out.1
            case measure => simp [intOf]; omega
        · obtain rfl : p = K := by omega
          have HF := Lib.hid (And.intro hag hst1)
          clear hag hst1
          go_wp2_with fail
          go_end0
          exact ⟨rfl, dl1, HF.out.1, by rw [H.out.2.2.2.1]; exact HF.out.2⟩
end Go.Proofs.Ytkljambjdiblkaa
