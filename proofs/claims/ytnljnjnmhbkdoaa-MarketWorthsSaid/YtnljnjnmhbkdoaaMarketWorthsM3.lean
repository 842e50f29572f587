/- Laws and contracts that the proof of MarketWorths uses, part 9. -/
import Derived.Test.YtnljnjnmhbkdoaaMarketWorthsM2
import Derived.Test.YtnljnjnmhbkdoaaBaseM6
import Derived.Test.YtnljnjnmhbkdoaaBaseM5
import Derived.Test.YtnljnjnmhbkdoaaMarketWorthsM1
namespace Go.Proofs.Ytnljnjnmhbkdoaa
open Go.RowKit

/- Contract: spent of the reference's solver. -/

theorem rwL_zero (k : Nat) : (List.range k).map (fun x => if x < k then ((0 : Int), (1 : Int)) else (0, 0)) = rwL k (fun _ => 0) := by
  unfold rwL
  refine List.map_congr_left fun x hx => ?_
  rw [if_pos (List.mem_range.1 hx)]; rfl
theorem list_set_same {α : Type} {l : List α} {i : Nat} {v : α} (h : l[i]? = some v) : l.set i v = l := by
  apply List.ext_getElem?
  intro j
  rw [List.getElem?_set]
  by_cases e : i = j
  · subst e
    rw [if_pos rfl, if_pos (List.getElem?_eq_some_iff.1 h).1, h]
  · rw [if_neg e]
theorem PrB.dens {w : World} {g : Nat} {t : TypeId} {ps : List (Int × Int)} (h : PrB w g t ps) {k : Nat} {a b : Int} (hk : ps[k]? = some (a, b)) (c : Int) : PrB (w.setCell ⟨g, k * 2 + 1, none⟩ (.int .i64 c)) g t (ps.set k (a, c)) := by
  have h1 := Blk.set_ h (k * 2 + 1) (.int .i64 c)
  have h0 := (pcells_get ps k).1
  rw [hk] at h0
  have e : (prA ps).setIfInBounds (k * 2 + 1) (.int .i64 c) = prA (ps.set k (a, c)) := by
    apply Array.ext'
    simp only [prA, Array.toList_setIfInBounds]
    have h2 := pcells_set ps k a c
    rw [list_set_same h0] at h2
    exact h2
  rw [e] at h1
  exact h1
/-- What a call owns, kept but for a few blocks that are not its own. -/
theorem own_keptT {w w' : World} {base e size n : Nat} {v : Value} {xs : List Value} {S : List Nat} (h : w.ownsRow base e size v n xs) (hk : Kept w.heap.size S w w') (hS : ∀ x ∈ S, x < base ∨ w.heap.size ≤ x) : w'.ownsRow base e size v n xs := by
  obtain ⟨h1, h2⟩ := h
  refine ⟨h1, ?_⟩
  rcases h2 with h2 | ⟨g, cap, cur, hv, a1, a2, a3⟩
  · exact .inl h2
  · exact .inr ⟨g, cap, cur, hv, a1, (hk.block g (lt_of_block a2) (fun hm => by have := hS g hm; have := lt_of_block a2; omega)).trans a2, a3⟩
/-- A list that begins with no 0 lies in no block of 0s. -/
theorem far_zero {w : World} {base m c k : Nat} {A : Option Addr} {qs : List Rat} {q0 : Rat} {g : Nat} {f : Nat → Rat} (h : w.ownsRow base 37 2 (.slice A m c) m (fcells qs)) (hm : 0 < m) (h0 : qs[0]? = some q0) (hq : q0.num ≠ 0) (hP : PrB w g 37 (rwL k f)) (hk : 0 < k) (hf : f 0 = 0) : (Value.slice A m c).ownBlock ≠ some g := by
  obtain ⟨g', rfl, _, hF⟩ := fwB_own h hm
  intro he
  have he : g' = g := by injection he
  subst he
  have h1 := (hF.read h0).1
  have h2 := (hP.read (rwL_get hk)).1
  rw [h1, hf] at h2
  injection h2 with h2
  injection h2 with _ h2
  exact hq h2
set_option maxRecDepth 100000 in
set_option maxHeartbeats 8000000 in
theorem r4spent_any (A : Option Addr) (n c : Nat) (U : Option Addr) (d k set cp : Nat) (Pa : Option Addr) (B : List Int) (V : List (List Int)) (P : List Rat) (T : Int) (w : World) (h : MkIn w A n U k B V) (hs : set < 512) (hP : Fracs w Pa P) (hl : P.length = k) (hT : 1 ≤ T ∧ T ≤ 1200)
    (hPT : ∀ q ∈ P, (0 ≤ q ∧ q ≤ 60) ∧ ∃ z : Int, q = (z : Rat) / (T : Rat)) :
    Calls Try.prog 45 #[.agg #[.slice A n c, .slice U n d], .slice Pa k cp, .int .i64 n, .int .i64 k, .int .i64 set] w fun e w' => ∃ g, e = .returned (.tuple #[.slice (some ⟨g, 0, none⟩) n n, .bool (decide ((spF n k B P set).st = 0))]) ∧ FMat w' (some ⟨g, 0, none⟩) (spM n k (spF n k B P set)) ∧ Below w.heap.size w w' := by
  have hn := h.hn
  have hk := h.hk
  have hbud := h.buds
  obtain ⟨w1, hw1⟩ : ∃ w1, w1 = (w.alloc (.cells #[.slice A n c, .slice U n d] 25)).alloc (.cells (Array.replicate n (Value.slice none 0 0)) 26) := ⟨_, rfl⟩
  have hb1 : Below w.heap.size w w1 := by rw [hw1]; exact ((Below.refl _ _).alloc (Nat.le_refl _) _).alloc (by simp) _
  have hM1 : Blk w1 w.heap.size 25 #[.slice A n c, .slice U n d] := by rw [hw1]; exact (Blk.new _ _ _ rfl).alloc _
  have hO1 : SpM w1 (w.heap.size + 1) n k 0 (fun _ => 0) (fun _ _ => 0) := by
    refine ⟨?_, fun j hj => by omega, fun j j' hj => by omega⟩
    rw [hw1, sbC_zero]
    exact Blk.new _ _ _ (by simp)
  have hsz1 : w1.heap.size = w.heap.size + 2 := by rw [hw1]; simp
  obtain ⟨hSI, hSR⟩ := spF_sz (B := B) (P := P) hs hn hk hT hbud hPT
  have H := Lib.hid (And.intro hM1 (And.intro hb1 (And.intro hO1 (And.intro h (And.intro hP (And.intro hl (And.intro hSI hSR)))))))
  have hwl := hM1.lt
  clear h hM1 hb1 hO1 hP hl hSI hSR
  obtain ⟨S, hS⟩ : ∃ S, S = n + k := ⟨_, rfl⟩
  have hSw : (n : Int) + (k : Int) = (S : Int) := by omega
  have HS := Lib.hid hS
  clear hS
  have hmk := make_fracs4 k (by omega)
  have hmk2 := make_fracss4 n (by omega)
  go_enter Try.func45, Try.ntmps45
  go_wp2_with fail
  rw [← hw1]
  clear hw1 hmk2
  have hsz2 : w.heap.size + 1 < w1.heap.size := by omega
  clear hsz1
  go_loopw [13, 26] (fun ov iv wx => ∃ (i : Nat) (A2 : Option Addr) (c2 : Nat) (rb : Nat → Nat), i ≤ n ∧ iv = .int .i64 i ∧ ov = .slice A2 i c2 ∧ wx.ownsRow w1.heap.size 37 2 (.slice A2 i c2) i (fcells ((List.range i).map (budQ B))) ∧ SpM wx (w.heap.size + 1) n k i rb (fun _ _ => 0) ∧ ((∀ j, j < i → w1.heap.size ≤ rb j) ∧ (i = 0 → A2 = none)) ∧ Kept w1.heap.size [w.heap.size + 1] w1 wx) (fun _ iv _ => n - (intOf iv).toNat)
  case atStart => exact ⟨0, none, 0, fun _ => 0, Nat.zero_le _, rfl, rfl, World.ownsRow_nil _ _ _ _, H.out.2.2.1, ⟨fun j hj => by omega, fun _ => rfl⟩, Kept.refl _ _ _⟩
  case round =>
    obtain ⟨i, A2, c2, rb, hi, rfl, rfl, hown, hM, hrb, hkp⟩ := hrel
    obtain ⟨wo, rfl⟩ : ∃ wo : World, wo = wr := ⟨_, rfl⟩
    have HO := Lib.hid (And.intro hown (And.intro hM (And.intro hrb hkp)))
    have hso := hkp.size
    clear hown hM hrb hkp
    by_cases hin : i < n
    · have l1 : (i : Int) < (n : Int) := by omega
      have l2 : (0 : Int) ≤ (i : Int) := by omega
      obtain ⟨gR, hgR⟩ : ∃ g, g = wo.heap.size := ⟨_, rfl⟩
      have hO := HO.out.2.1.out
      have c2' : wo.cell? ⟨w.heap.size + 1, i, none⟩ = some (.slice none 0 0) := by rw [hO.cell, sbC_get hin, if_neg (by omega)]
      have f2' := hO.frozen i
      have hOl := hO.lt
      obtain ⟨w2, hw2⟩ : ∃ w2, w2 = (wo.setCell ⟨w.heap.size + 1, i, none⟩ (.slice (some ⟨gR, 0, none⟩) k k)).alloc (.cells (prA (List.replicate k (0, 0))) 37) := ⟨_, rfl⟩
      have hO2 : Blk w2 (w.heap.size + 1) 26 (sbC n k (i + 1) (upd rb i gR)) := by
        have h1 := (hO.set_ i (.slice (some ⟨gR, 0, none⟩) k k)).alloc (.cells (prA (List.replicate k (0, 0))) 37)
        rw [sbC_set, ← hw2] at h1
        exact h1
      have hP2 : PrB w2 gR 37 (List.replicate k (0, 0)) := by rw [hw2]; exact Blk.new _ _ _ (by simpa [World.setCell] using hgR)
      have hk2 : Kept wo.heap.size [w.heap.size + 1] wo w2 := by
        rw [hw2]
        exact ((Kept.refl _ _ _).setCell (.inl (by simp)) _).alloc (by simp [World.setCell]) _
      have hs2 : w2.heap.size = wo.heap.size + 1 := by rw [hw2]; simp [World.setCell]
      have H2 := Lib.hid (And.intro hO2 (And.intro hP2 (And.intro hk2 hgR)))
      clear hO hO2 hP2 hk2
      go_upto_region 7 with fail
      rw [← hgR, ← hw2]
      have hgl : wo.heap.size ≤ gR ∧ gR < w2.heap.size ∧ w.heap.size + 1 < wo.heap.size := by omega
      clear hgR hw2 c2' f2'
      go_wp2_with fail
      go_loopw [35] (fun gv wx => ∃ g : Nat, g ≤ k ∧ gv = .int .i64 g ∧ PrB wx gR 37 (zr k g) ∧ Kept w2.heap.size [gR] w2 wx) (fun gv _ => k - (intOf gv).toNat)
      case atStart => exact ⟨0, Nat.zero_le _, rfl, by rw [zr_zero]; exact H2.out.2.1, Kept.refl _ _ _⟩
      case round =>
        obtain ⟨g, hg, rfl, hPg, hkg⟩ := hrel
        obtain ⟨wg, rfl⟩ : ∃ wo : World, wo = wr := ⟨_, rfl⟩
        have HG := Lib.hid (And.intro hPg hkg)
        clear hPg hkg
        have hOg := H2.out.1.kept HG.out.2 (by omega) (by simp; omega)
        have c2' : wg.cell? ⟨w.heap.size + 1, i, none⟩ = some (.slice (some ⟨gR, 0, none⟩) k k) := by rw [hOg.cell, sbC_get hin, if_pos (by omega), upd_same]
        by_cases hgk : g < k
        · have l3 : (g : Int) < (k : Int) := by omega
          have l4 : (0 : Int) ≤ (g : Int) := by omega
          have hzg : (zr k g)[g]? = some (0, 0) := by rw [zr_get hgk]; simp
          obtain ⟨_, y2⟩ := HG.out.1.read hzg
          have y3 := HG.out.1.frozen (g * 2 + 1)
          have h9 := HG.out.1.dens hzg 1
          rw [zr_set] at h9
          have H9 := Lib.hid (And.intro h9 (HG.out.2.setCell (p := ⟨gR, g * 2 + 1, none⟩) (.inl (by simp)) (.int .i64 1)))
          clear h9 hzg hOg
          go_wp2_with fail
          go_roundw
          case rel => exact ⟨g + 1, by omega, by go_num, H9.out.1, H9.out.2⟩
          case measure => simp [intOf]; omega
        · obtain rfl : k = g := by omega
          have hkA : Kept wo.heap.size [w.heap.size + 1] wo wg := H2.out.2.2.1.trans (HG.out.2.mono (B' := wo.heap.size) (S' := [w.heap.size + 1]) (by omega) (fun x hx => by simp at hx; right; omega))
          have hownA := own_keptT HO.out.1 hkA (fun x hx => by simp at hx; omega)
          have hrz : zr k k = rwL k (fun _ => 0) := rwL_zero k
          have hMA : SpM wg (w.heap.size + 1) n k (i + 1) (upd rb i gR) (fun _ _ => 0) := by
            refine ⟨hOg, fun j hj => ?_, fun j j' hj hj' he => ?_⟩
            · by_cases e : j = i
              · subst e
                rw [upd_same, ← hrz]; exact HG.out.1
              · rw [upd_other _ _ _ e]
                exact (HO.out.2.1.rows j (by omega)).kept hkA (HO.out.2.1.rows j (by omega)).lt (by simp; have := HO.out.2.2.1.1 j (by omega); omega)
            · by_cases e : j = i
              · subst e
                rw [upd_same] at he
                by_cases e2 : j' = j
                · exact e2.symm
                · rw [upd_other _ _ _ e2] at he
                  have := (HO.out.2.1.rows j' (by omega)).lt
                  omega
              · rw [upd_other _ _ _ e] at he
                by_cases e2 : j' = i
                · subst e2
                  rw [upd_same] at he
                  have := (HO.out.2.1.rows j (by omega)).lt
                  omega
                · rw [upd_other _ _ _ e2] at he
                  exact HO.out.2.1.inj j j' (by omega) (by omega) he
          have hbw : Below w.heap.size w wg := H.out.2.1.trans ((HO.out.2.2.2.mono (B' := w.heap.size) (S' := []) (by omega) (fun x hx => by simp at hx; right; omega)).trans (hkA.mono (B' := w.heap.size) (S' := []) (by omega) (fun x hx => by simp at hx; right; omega))).below
          have hbx := (H.out.1.kept HO.out.2.2.2 hwl (by simp)).kept hkA (by omega) (by simp)
          obtain ⟨m1, m2, _, _⟩ := hbx.at2
          obtain ⟨aB, hAB, _, hcB⟩ := (H.out.2.2.2.1.mkt.budgets.below hbw).some_ (by rw [H.out.2.2.2.1.mkt.hB]; omega)
          subst hAB
          have hxi : B[i]? = some (B.getD i 0) := by
            rw [List.getD_eq_getElem?_getD, List.getElem?_eq_getElem (by rw [H.out.2.2.2.1.mkt.hB]; exact hin)]; rfl
          have hbb := hbud (B.getD i 0) (List.mem_of_getElem? hxi)
          have c1 := hcB i _ hxi
          have hks : Kept w1.heap.size [w.heap.size + 1] w1 wg := HO.out.2.2.2.trans (hkA.mono hso (fun x hx => .inl hx))
          have hnx : fcells ((List.range (i + 1)).map (budQ B)) = fcells ((List.range i).map (budQ B)) ++ [.int .i64 (B.getD i 0), .int .i64 1] := by
            rw [List.range_succ, List.map_append, List.map_cons, List.map_nil, fcells_snoc]
            unfold budQ
            rw [Rat.num_intCast, Rat.den_intCast]; rfl
          have HA := Lib.hid (And.intro hownA (And.intro hMA (And.intro hks hnx)))
          have hsg := HG.out.2.size
          clear hkA hownA hMA hbw hbx hcB hxi hks hOg hnx hrz
          obtain ⟨b, hbe⟩ : ∃ b, b = B.getD i 0 := ⟨_, rfl⟩
          rw [← hbe] at c1 hbb HA
          clear hbe
          go_wp2_with fail
          refine (rof_use b _ (by omega)).mono ?_
          rintro e w3 ⟨rfl, hb3⟩
          have hown3 := own_below HA.out.1 hb3
          have HA3 := Lib.hid (And.intro hown3 (And.intro (HA.out.2.1.below hb3) (HA.out.2.2.1.trans (Kept.of_below (hb3.mono (by omega)) _))))
          have hs3 := hb3.size
          have hsz : w1.heap.size ≤ w3.heap.size := by omega
          clear hown3 hb3 c1 m1 m2 c2'
          go_wp2_with (at_builtin; refine app1g sty_frac rfl _ _ rfl w1.heap.size A2 i c2 _ #[.int .i64 b, .int .i64 1] rfl (by simp [Value.oneCell']) rfl HA3.out.1 _ rfl rfl (by omega) hsz ?_)
          intro A4 k4 w4 hown4 hg4 hbl4 hk41 hk42
          have hown5 : w4.ownsRow w1.heap.size 37 2 (.slice A4 (i + 1) k4) (i + 1) (fcells ((List.range (i + 1)).map (budQ B))) := by rw [HA.out.2.2.2]; exact hown4
          have hnb : ∀ j, j < i + 1 → some (upd rb i gR j) ≠ (Value.slice A2 i c2).ownBlock := fun j hj he => by
            rcases Nat.eq_zero_or_pos i with h0 | h0
            · rw [HO.out.2.2.1.2 h0] at he; cases he
            · refine far_zero (q0 := budQ B 0) HA3.out.1 h0 (by rw [List.getElem?_map, List.getElem?_range h0]; rfl) ?_ (HA3.out.2.1.rows j hj) (by omega) rfl he.symm
              unfold budQ
              rw [Rat.num_intCast]
              have hx0 : B[0]? = some (B.getD 0 0) := by
                rw [List.getD_eq_getElem?_getD, List.getElem?_eq_getElem (by rw [H.out.2.2.2.1.mkt.hB]; omega)]; rfl
              have := hbud _ (List.mem_of_getElem? hx0)
              omega
          have hM4 : SpM w4 (w.heap.size + 1) n k (i + 1) (upd rb i gR) (fun _ _ => 0) :=
            ⟨HA3.out.2.1.out.below hbl4 (by omega), fun j hj => (HA3.out.2.1.rows j hj).grown hg4 (hnb j hj), HA3.out.2.1.inj⟩
          have hrb4 : ∀ j, j < i + 1 → w1.heap.size ≤ upd rb i gR j := fun j hj => by
            by_cases e : j = i
            · subst e; rw [upd_same]; omega
            · rw [upd_other _ _ _ e]; exact HO.out.2.2.1.1 j (by omega)
          have H4 := Lib.hid (And.intro hown5 (And.intro hM4 (And.intro hrb4 (HA3.out.2.2.trans (Kept.of_below hbl4 _)))))
          clear hown4 hown5 hg4 hbl4 hnb hM4 hrb4
          go_wp2_with fail
          go_roundw
          case rel => exact ⟨i + 1, A4, k4, _, by omega, by go_num, rfl, H4.out.1, H4.out.2.1, ⟨H4.out.2.2.1, fun h => by omega⟩, H4.out.2.2.2⟩
          case measure => simp [intOf]; omega
    · obtain rfl : n = i := by omega
      have hP1 : Below w.heap.size w wo := H.out.2.1.trans (HO.out.2.2.2.mono (B' := w.heap.size) (S' := []) (by omega) (fun x hx => by simp at hx; right; omega)).below
      have hPa := H.out.2.2.2.2.1.below hP1
      obtain ⟨aP, hPA, _, _⟩ := hPa.some_ (by rw [H.out.2.2.2.2.2.1]; omega)
      subst hPA
      have hnews : At wo (some aP) (pcells (P.map pr)) := hPa
      have hnl : (pcells (P.map pr)).length = k * 2 := by rw [pcells_length, List.length_map, H.out.2.2.2.2.2.1]
      have HP := Lib.hid (And.intro hnews (And.intro hnl (And.intro (pcells_one (P.map pr)) hP1)))
      clear hPa hnews hnl hP1
      go_wp2_with (at_builtin; refine appN sty_frac rfl _ _ rfl w1.heap.size A2 n c2 _ rfl HO.out.1 (some aP) k cp (pcells (P.map pr)) (fun h => by cases h) HP.out.2.1 HP.out.1 HP.out.2.2.1 rfl (by omega) hso ?_)
      intro A4 k4 w4 hown4 hg4 hbl4 hk41 hk42
      have hL4 : fcells ((List.range n).map (budQ B)) ++ pcells (P.map pr) = fcells (hvL n k (sp0 n B P set).hv) := by
        rw [pcells_fr]
        have e : hvL n k (sp0 n B P set).hv = (List.range n).map (budQ B) ++ P := by
          apply List.ext_getElem?
          intro x
          by_cases hx : x < n
          · rw [hvL_get (by omega), List.getElem?_append_left (by simpa using hx), List.getElem?_map, List.getElem?_range hx]
            show some (if x < n then budQ B x else _) = _
            rw [if_pos hx]; rfl
          · rw [List.getElem?_append_right (by simp; omega)]
            simp only [List.length_map, List.length_range]
            by_cases hx2 : x < n + k
            · rw [hvL_get hx2]
              show some (if x < n then _ else priQ P (x - n)) = _
              rw [if_neg hx]
              unfold priQ
              rw [List.getD_eq_getElem?_getD, List.getElem?_eq_getElem (by rw [H.out.2.2.2.2.2.1]; omega)]; rfl
            · rw [List.getElem?_eq_none (by simp [hvL]; omega), List.getElem?_eq_none (by rw [H.out.2.2.2.2.2.1]; omega)]
        rw [e]
        unfold fcells
        rw [List.flatMap_append]
      rw [hL4] at hown4
      have hq0 : (budQ B 0).num ≠ 0 := by
        unfold budQ
        rw [Rat.num_intCast]
        have hx0 : B[0]? = some (B.getD 0 0) := by
          rw [List.getD_eq_getElem?_getD, List.getElem?_eq_getElem (by rw [H.out.2.2.2.1.mkt.hB]; omega)]; rfl
        have := hbud _ (List.mem_of_getElem? hx0)
        omega
      have hnb : ∀ j, j < n → some (rb j) ≠ (Value.slice A2 n c2).ownBlock := fun j hj he =>
        far_zero (q0 := budQ B 0) HO.out.1 (by omega) (by rw [List.getElem?_map, List.getElem?_range (by omega)]; rfl) hq0 (HO.out.2.1.rows j hj) (by omega) rfl he.symm
      have hM4 : SpM w4 (w.heap.size + 1) n k n rb (fun _ _ => 0) :=
        ⟨HO.out.2.1.out.below hbl4 (by omega), fun j hj => (HO.out.2.1.rows j hj).grown hg4 (hnb j hj), HO.out.2.1.inj⟩
      have hne4 : ∀ j, j < n → (Value.slice A4 (n + k) k4).ownBlock ≠ some (rb j) := fun j hj =>
        far_zero (q0 := budQ B 0) hown4 (by omega) (by rw [hvL_get (by omega)]; show some (if 0 < n then budQ B 0 else _) = _; rw [if_pos (by omega)]) hq0 (hM4.rows j hj) (by omega) rfl
      obtain ⟨gH, rfl, hgH, hF4⟩ := fwB_own hown4 (by omega)
      have hbw4 : Below w.heap.size w w4 := HP.out.2.2.2.trans (hbl4.mono (by omega))
      have hneH : ∀ j, j < n → gH ≠ rb j := fun j hj he => hne4 j hj (by rw [← he]; rfl)
      have hgO : gH ≠ w.heap.size + 1 := by omega
      have H4 := Lib.hid (And.intro hF4 (And.intro hM4 (And.intro hbw4 (And.intro hneH HO.out.2.2.1.1))))
      have hw4s := hbw4.size
      clear hown4 hg4 hbl4 hL4 hq0 hnb hM4 hne4 hF4 hbw4 hneH
      go_wp2_with fail
      obtain ⟨s0, hs0⟩ : ∃ s0, s0 = sp0 n B P set := ⟨_, rfl⟩
      have hst0 : (spR n k s0 0).st = set := by rw [hs0]; rfl
      have hF : spF n k B P set = spR n k s0 S := by rw [hs0, HS.out]; rfl
      have hsp0 : (spR n k s0 0).sp = fun _ _ => 0 := by rw [hs0]; rfl
      have hhv0 : (spR n k s0 0).hv = (sp0 n B P set).hv := by rw [hs0]; rfl
      rw [← hsp0, ← hhv0] at H4
      have hSI := H.out.2.2.2.2.2.2
      rw [← hs0] at hSI
      have HSI := Lib.hid (And.intro hSI hF)
      clear hs0 hSI hF hsp0 hhv0
      obtain ⟨NK, hNK⟩ : ∃ N, N = n * k := ⟨_, rfl⟩
      have hNKw : (n : Int) * (k : Int) = (NK : Int) := by rw [hNK]; push_cast; rfl
      have hNK9 : NK ≤ 9 := by rw [hNK]; have := Nat.mul_le_mul hn.2 hk.2; omega
      have HNK := Lib.hid hNK
      have hk0 : ¬ k = 0 := by omega
      clear hNK
      go_loopw [4, 62] (fun sv tv wx => ∃ t : Nat, t ≤ S ∧ tv = .int .i64 t ∧ sv = .int .i64 ((spR n k s0 t).st : Nat) ∧ FwB wx gH (n + k) (hvL n k (spR n k s0 t).hv) ∧ SpM wx (w.heap.size + 1) n k n rb (spR n k s0 t).sp ∧ Below w.heap.size w wx) (fun _ tv _ => S - (intOf tv).toNat)
      case atStart => exact ⟨0, Nat.zero_le _, rfl, by rw [hst0], H4.out.1, H4.out.2.1, H4.out.2.2.1⟩
      case round =>
        obtain ⟨t, ht, rfl, rfl, hF, hM, hb⟩ := hrel
        obtain ⟨wt, rfl⟩ : ∃ wo : World, wo = wr := ⟨_, rfl⟩
        have HT := Lib.hid (And.intro hF (And.intro hM hb))
        clear hF hM hb
        by_cases htS : t < S
        · have l3 : (t : Int) < (S : Int) := by omega
          have hnx : spR n k s0 (t + 1) = spI n k (spR n k s0 t) (n + k) := rfl
          rw [← HS.out] at hnx
          have HNT := Lib.hid hnx
          have hsi := HSI.out.1.1 t
          obtain ⟨r0, hr0⟩ : ∃ r, r = spR n k s0 t := ⟨_, rfl⟩
          rw [← hr0] at HT HNT hsi ⊢
          have HSI2 := Lib.hid hsi
          clear hnx hr0 hsi
          go_wp2_with fail
          go_loopw [4, 67] (fun sv xv wx => ∃ x : Nat, x ≤ S ∧ xv = .int .i64 x ∧ sv = .int .i64 ((spI n k r0 x).st : Nat) ∧ FwB wx gH (n + k) (hvL n k (spI n k r0 x).hv) ∧ SpM wx (w.heap.size + 1) n k n rb (spI n k r0 x).sp ∧ Below w.heap.size w wx) (fun _ xv _ => S - (intOf xv).toNat)
          case atStart => exact ⟨0, Nat.zero_le _, rfl, rfl, HT.out⟩
          case round =>
            obtain ⟨x, hx, rfl, rfl, hF, hM, hb⟩ := hrel
            obtain ⟨wx, rfl⟩ : ∃ wo : World, wo = wr := ⟨_, rfl⟩
            by_cases hxS : x < S
            · have l4 : (x : Int) < (S : Int) := by omega
              have l4' : (0 : Int) ≤ (x : Int) := by omega
              have hxnk : x < n + k := by rw [← HS.out]; exact hxS
              have hnx : spI n k r0 (x + 1) = spX n k (spI n k r0 x) x := rfl
              have hsi := HSI2.out x (by omega)
              obtain ⟨q, hq⟩ : ∃ r, r = spI n k r0 x := ⟨_, rfl⟩
              rw [← hq] at hF hM hnx hsi ⊢
              have hql := hsi.lt
              have HX := Lib.hid (And.intro hF (And.intro hM (And.intro hb (And.intro hnx (And.intro hsi hxnk)))))
              obtain ⟨sq, hsq⟩ : ∃ z, z = q.st := ⟨_, rfl⟩
              rw [← hsq] at hql ⊢
              have HSQ := Lib.hid hsq
              clear hF hM hb hnx hsi hq hxnk hsq
              go_wp2_with fail
              go_loopw [17, 18, 73] (fun pv cv ev wz => ∃ e : Nat, e ≤ NK ∧ ev = .int .i64 e ∧ pv = .int .i64 ((pcTo n k sq x e).1 : Nat) ∧ cv = .int .i64 ((pcTo n k sq x e).2 : Nat) ∧ Below wx.heap.size wx wz) (fun _ _ ev _ => NK - (intOf ev).toNat)
              case atStart => exact ⟨0, Nat.zero_le _, rfl, rfl, rfl, Below.refl _ _⟩
              case round =>
                obtain ⟨e, he, rfl, rfl, rfl, hbz⟩ := hrel
                obtain ⟨wz, rfl⟩ : ∃ wo : World, wo = wr := ⟨_, rfl⟩
                have HBZ := Lib.hid hbz
                clear hbz
                have hle := pc_le (n := n) (k := k) (set := sq) (x := x) e
                by_cases heN : e < NK
                · have l5 : (e : Int) < (NK : Int) := by omega
                  have hnx : pcTo n k sq x (e + 1) = if sq.testBit e && atX n k x e then (e, (pcTo n k sq x e).2 + 1) else pcTo n k sq x e := rfl
                  have hat : atX n k x e = ((e / k == x) || (n + e % k == x)) := rfl
                  obtain ⟨pp, hpp⟩ : ∃ p, p = (pcTo n k sq x e).1 := ⟨_, rfl⟩
                  obtain ⟨cc, hcc⟩ : ∃ p, p = (pcTo n k sq x e).2 := ⟨_, rfl⟩
                  have hpc : pcTo n k sq x e = (pp, cc) := by rw [hpp, hcc]
                  rw [hpc] at hnx hle
                  rw [← hpp, ← hcc]
                  obtain ⟨E1, hE1⟩ : ∃ z, z = e / k := ⟨_, rfl⟩
                  obtain ⟨E2, hE2⟩ : ∃ z, z = e % k := ⟨_, rfl⟩
                  have dq : (e : Int) / (k : Int) = (E1 : Int) := by rw [hE1]; exact (Int.natCast_ediv e k).symm
                  have dr : (e : Int) % (k : Int) = (E2 : Int) := by rw [hE2]; exact (Int.natCast_emod e k).symm
                  have dq2 : (e : Int).tdiv (k : Int) = (E1 : Int) := by rw [Int.tdiv_eq_ediv_of_nonneg (by omega)]; exact dq
                  have dr2 : (e : Int).tmod (k : Int) = (E2 : Int) := by rw [Int.tmod_eq_emod_of_nonneg (by omega)]; exact dr
                  have dq3 : e / k = E1 := hE1.symm
                  have dr3 : e % k = E2 := hE2.symm
                  have hE19 : E1 ≤ 9 := by rw [hE1]; have := Nat.div_le_self e k; omega
                  have dl : E2 < k := by rw [hE2]; exact Nat.mod_lt _ (by omega)
                  obtain ⟨N2, hN2⟩ : ∃ z, z = n + E2 := ⟨_, rfl⟩
                  have dn : (n : Int) + (E2 : Int) = (N2 : Int) := by omega
                  rw [← hE1, ← hE2, ← hN2] at hat
                  have hN6 : N2 ≤ 5 := by omega
                  have hc9 : cc ≤ 9 := by have := hle.1; simp only at this; omega
                  have HN := Lib.hid (And.intro hnx hat)
                  clear hnx hat hpp hcc hpc hle hE1 hE2 hN2
                  cases hb : sq.testBit e with
                  | false =>
                    have hbt := shr_f (set := sq) (b := e) hql hb
                    rw [hb, Bool.false_and, if_neg (by decide)] at HN
                    clear hb
                    go_wp2_with fail
                    go_roundw
                    case rel => exact ⟨e + 1, by omega, by go_num, by rw [HN.out.1], by rw [HN.out.1], HBZ.out⟩
                    case measure => simp [intOf]; omega
                  | true =>
                    have hbt := shr_t (set := sq) (b := e) hql hb
                    rw [hb, Bool.true_and] at HN
                    clear hb
                    by_cases h1 : E1 = x
                    · have HT2 : Hid (pcTo n k sq x (e + 1) = (e, cc + 1)) := Lib.hid (by rw [HN.out.1, HN.out.2, h1]; simp)
                      subst h1
                      go_wp2_with fail
                      go_roundw
                      case rel => exact ⟨e + 1, by omega, by go_num, by rw [HT2.out], by rw [HT2.out]; go_num, HBZ.out⟩
                      case measure => simp [intOf]; omega
                    · have h1i : decide ((E1 : Int) = (x : Int)) = false := decide_eq_false (by omega)
                      have h1j : ((E1 : Int) == (x : Int)) = false := by rw [beq_eq_false_iff_ne]; omega
                      have h1k : decide (E1 = x) = false := decide_eq_false h1
                      by_cases h2 : N2 = x
                      · have HT2 : Hid (pcTo n k sq x (e + 1) = (e, cc + 1)) := Lib.hid (by rw [HN.out.1, HN.out.2, h2]; simp)
                        subst h2
                        go_wp2_with fail
                        go_roundw
                        case rel => exact ⟨e + 1, by omega, by go_num, by rw [HT2.out], by rw [HT2.out]; go_num, HBZ.out⟩
                        case measure => simp [intOf]; omega
                      · have h2i : decide ((N2 : Int) = (x : Int)) = false := decide_eq_false (by omega)
                        have h2j : ((N2 : Int) == (x : Int)) = false := by rw [beq_eq_false_iff_ne]; omega
                        have h2k : decide (N2 = x) = false := decide_eq_false h2
                        have HT2 : Hid (pcTo n k sq x (e + 1) = (pp, cc)) := Lib.hid (by
                          rw [HN.out.1, HN.out.2, show (E1 == x) = false by simpa using h1, show (N2 == x) = false by simpa using h2]; rfl)
                        go_wp2_with fail
                        go_roundw
                        case rel => exact ⟨e + 1, by omega, by go_num, by rw [HT2.out], by rw [HT2.out], HBZ.out⟩
                        case measure => simp [intOf]; omega
                · obtain rfl : NK = e := by omega
                  have hspec := (pc_spec (n := n) (k := k) (set := sq) (x := x) NK).2
                  obtain ⟨pp, hpp⟩ : ∃ p, p = (pcTo n k sq x NK).1 := ⟨_, rfl⟩
                  obtain ⟨cc, hcc⟩ : ∃ p, p = (pcTo n k sq x NK).2 := ⟨_, rfl⟩
                  have hpc : pcTo n k sq x NK = (pp, cc) := by rw [hpp, hcc]
                  rw [hpc] at hspec hle
                  rw [← hpp, ← hcc]
                  have HPC := Lib.hid hpc
                  have hc9 : cc ≤ 9 := by have := hle.1; simp only at this; omega
                  clear hpp hcc hpc hle
                  by_cases hc1 : cc = 1
                  · obtain ⟨g1, g2, g3, _⟩ := hspec hc1
                    have hpd := at_pair hk.1 (by rw [← HNK.out]; exact g1) g3
                    have hnew : spI n k r0 (x + 1) = ⟨upd (upd q.hv (othX n k x pp) (q.hv (othX n k x pp) - q.hv x)) x 0, upd2 q.sp (pp / k) (pp % k) (q.hv x), clr sq pp⟩ := by
                      rw [HX.out.2.2.2.1]
                      unfold spX
                      rw [← HNK.out, ← HSQ.out, HPC.out]
                      exact if_pos hc1
                    subst hc1
                    have hpp9 : pp < 9 := by omega
                    obtain ⟨i, hie⟩ : ∃ i, i = pp / k := ⟨_, rfl⟩
                    obtain ⟨g, hge⟩ : ∃ i, i = pp % k := ⟨_, rfl⟩
                    obtain ⟨o, hoe⟩ : ∃ i, i = othX n k x pp := ⟨_, rfl⟩
                    have hoth : o = if x < n then n + g else i := by rw [hoe, hge, hie]; rfl
                    obtain ⟨a1, a2, a3, a4, a5, a6, a7⟩ := hpd
                    rw [← hie] at a1
                    rw [← hge] at a2
                    rw [← hoe] at a6 a7
                    rw [← hie, ← hge, ← hoe] at hnew
                    have dq : (pp : Int) / (k : Int) = (i : Int) := by rw [hie]; exact (Int.natCast_ediv pp k).symm
                    have dr : (pp : Int) % (k : Int) = (g : Int) := by rw [hge]; exact (Int.natCast_emod pp k).symm
                    have dq2 : (pp : Int).tdiv (k : Int) = (i : Int) := by rw [Int.tdiv_eq_ediv_of_nonneg (by omega)]; exact dq
                    have dr2 : (pp : Int).tmod (k : Int) = (g : Int) := by rw [Int.tmod_eq_emod_of_nonneg (by omega)]; exact dr
                    have dq3 : pp / k = i := hie.symm
                    have dr3 : pp % k = g := hge.symm
                    have HNW := Lib.hid (And.intro hnew (And.intro hoth g2))
                    have hFz := HX.out.1.below HBZ.out HX.out.1.lt
                    have hMz := HX.out.2.1.below HBZ.out
                    have hBz := HX.out.2.2.1.trans (HBZ.out.mono HX.out.2.2.1.size)
                    have HZ := Lib.hid (And.intro hFz (And.intro hMz hBz))
                    have hxnk := HX.out.2.2.2.2.2
                    have hszx := HX.out.2.2.2.2.1.hv_sz hT hxnk
                    have hszo := HX.out.2.2.2.2.1.hv_sz hT a7
                    clear hspec a3 a4 a5 hie hge hoe hnew hoth hFz hMz hBz g2 g3
                    obtain ⟨va, hva⟩ : ∃ z, z = q.hv x := ⟨_, rfl⟩
                    obtain ⟨vo, hvo⟩ : ∃ z, z = q.hv o := ⟨_, rfl⟩
                    have hgx : (hvL n k q.hv)[x]? = some va := by rw [hva]; exact hvL_get hxnk
                    have hgo : (hvL n k q.hv)[o]? = some vo := by rw [hvo]; exact hvL_get a7
                    rw [← hva] at hszx HNW
                    rw [← hvo] at hszo HNW
                    have HGX := Lib.hid (And.intro hgx hgo)
                    clear hva hvo hgx hgo
                    go_upto_region 29 with fail
                    go_cut [20, 21] (fun a b wy => a = .int .i64 i ∧ b = .int .i64 g ∧ Below wz.heap.size wz wy)
                    case first =>
                      go_quiet (fail)
                      go_wp2_with fail
                      go_meet
                      case rel => exact ⟨by first | rfl | rw [dq] | rw [dq2] | rw [dq3], by first | rfl | rw [dr] | rw [dr2] | rw [dr3], below_drewN (Below.refl _ _) _⟩
                    obtain ⟨wy, rfl⟩ : ∃ w : World, w = wc := ⟨_, rfl⟩
                    obtain ⟨rfl, rfl, hby⟩ := hcut
                    have HY := Lib.hid (And.intro (HZ.out.1.below hby HZ.out.1.lt) (And.intro (HZ.out.2.1.below hby) (HZ.out.2.2.trans (hby.mono HZ.out.2.2.size))))
                    clear hby dq dr dq2 dr2 dq3 dr3
                    obtain ⟨v1, v2⟩ := HY.out.1.read HGX.out.1
                    have c2' : wy.cell? ⟨w.heap.size + 1, i, none⟩ = some (.slice (some ⟨rb i, 0, none⟩) k k) := by rw [HY.out.2.1.out.cell, sbC_get a1, if_pos a1]
                    obtain ⟨y1, y2⟩ := (HY.out.2.1.rows i a1).read (rwL_get a2)
                    have y3 := (HY.out.2.1.rows i a1).frozen (g * 2)
                    have y4 := (HY.out.2.1.rows i a1).frozen (g * 2 + 1)
                    have l7 : (i : Int) < (n : Int) := by omega
                    have l7' : (0 : Int) ≤ (i : Int) := by omega
                    have l8 : (g : Int) < (k : Int) := by omega
                    have l8' : (0 : Int) ≤ (g : Int) := by omega
                    have l9 : (x : Int) < (n : Int) + (k : Int) := by omega
                    have hrbi := H4.out.2.2.2.2 i a1
                    have hFw := (HY.out.1.far (p := ⟨rb i, g * 2, none⟩) (H4.out.2.2.2.1 i a1) (.int .i64 va.num)).far (p := ⟨rb i, g * 2 + 1, none⟩) (H4.out.2.2.2.1 i a1) (.int .i64 (va.den : Int))
                    have hMw := HY.out.2.1.write a1 a2 va
                    have hBw := (HY.out.2.2.setCell (p := ⟨rb i, g * 2, none⟩) (by show w.heap.size ≤ rb i; omega) (.int .i64 va.num)).setCell (p := ⟨rb i, g * 2 + 1, none⟩) (by show w.heap.size ≤ rb i; omega) (.int .i64 (va.den : Int))
                    have HW := Lib.hid (And.intro hFw (And.intro hMw hBw))
                    clear hFw hMw hBw
                    go_upto_region 30 with fail
                    go_cut [21] (fun b wv => b = .int .i64 g ∧ FwB wv gH (n + k) (hvL n k q.hv) ∧ SpM wv (w.heap.size + 1) n k n rb (upd2 q.sp i g va) ∧ Below w.heap.size w wv)
                    case first =>
                      refine wp_region_drew_tail 10 (by kernel_rfl) (by kernel_rfl) ?_
                      simp only [List.take_succ_cons, List.take_zero, List.drop_succ_cons, List.drop_zero]
                      repeat (go_big_quiet_step (fail))
                      refine wpQuiet_nil ?_
                      rintro _ ⟨nq, rfl⟩
                      go_wp2_with fail
                      go_meet
                      case rel => exact ⟨rfl, HW.out.1.below (below_drewN (Below.refl _ _) nq) HW.out.1.lt, HW.out.2.1.below (below_drewN (Below.refl _ _) nq), below_drewN HW.out.2.2 nq⟩
                    obtain ⟨wv, rfl⟩ : ∃ w : World, w = wc := ⟨_, rfl⟩
                    obtain ⟨rfl, hFv, hMv, hBv⟩ := hcut
                    have HVV := Lib.hid (And.intro hFv (And.intro hMv hBv))
                    clear v1 v2 c2' y1 y2 y3 y4 hFv hMv hBv
                    have hsub : ∀ w', Calls Try.prog 63 #[.agg #[.int .i64 vo.num, .int .i64 (vo.den : Int)], .agg #[.int .i64 va.num, .int .i64 (va.den : Int)]] w' fun e w'' => e = .returned (.agg #[.int .i64 (vo - va).num, .int .i64 ((vo - va).den : Int)]) ∧ Below w'.heap.size w' w'' := fun w' => by
                      have k1 := den_pos va
                      have k2 := den_pos vo
                      have m1 := mul_bd (a := vo.num) (b := (va.den : Int)) (m := 288000) (n := 1200) (by omega) (by omega) (by omega) (by omega)
                      have m2 := mul_bd (a := va.num) (b := (vo.den : Int)) (m := 288000) (n := 1200) (by omega) (by omega) (by omega) (by omega)
                      have m3 : (vo.den : Int) * va.den ≤ 1200 * 1200 := Int.mul_le_mul (by omega) (by omega) (by omega) (by omega)
                      exact rsub_raw vo va w' (by omega) (by omega) (by omega) (by omega) (by omega)
                    obtain ⟨z, hz⟩ : ∃ z, z = vo - va := ⟨_, rfl⟩
                    rw [← hz] at hsub HNW
                    clear hz hszx hszo
                    go_upto_region 32 with fail
                    go_upto_if 122 with fail
                    go_cut [22] (fun b wu => b = .int .i64 o ∧ Below wv.heap.size wv wu)
                    case first =>
                      have hot := HNW.out.2.1
                      by_cases hxn : x < n
                      · rw [if_pos hxn] at hot
                        have hog : (n : Int) + (g : Int) = (o : Int) := by omega
                        have lx : (x : Int) < (n : Int) := by omega
                        clear hot hxn
                        go_wp2_with fail
                        go_meet
                        case rel => exact ⟨by first | rfl | rw [hog], Below.refl _ _⟩
                      · rw [if_neg hxn] at hot
                        have lx : ¬ (x : Int) < (n : Int) := by omega
                        clear hxn
                        subst hot
                        go_wp2_with fail
                        go_meet
                        case rel => exact ⟨rfl, Below.refl _ _⟩
                    obtain ⟨wu, rfl⟩ : ∃ w : World, w = wc := ⟨_, rfl⟩
                    obtain ⟨rfl, hbu⟩ := hcut
                    have HUU := Lib.hid (And.intro (HVV.out.1.below hbu HVV.out.1.lt) (And.intro (HVV.out.2.1.below hbu) (HVV.out.2.2.trans (hbu.mono HVV.out.2.2.size))))
                    clear hbu
                    obtain ⟨v1, v2⟩ := HUU.out.1.read HGX.out.1
                    obtain ⟨v3, v4⟩ := HUU.out.1.read HGX.out.2
                    have d1 : ∀ s : Desc wu, s.val.cell? ⟨gH, x * 2, none⟩ = some (.int .i64 va.num) := fun s => s.cell v1
                    have d2 : ∀ s : Desc wu, s.val.cell? ⟨gH, x * 2 + 1, none⟩ = some (.int .i64 (va.den : Int)) := fun s => s.cell v2
                    have d3 : ∀ s : Desc wu, s.val.cell? ⟨gH, o * 2, none⟩ = some (.int .i64 vo.num) := fun s => s.cell v3
                    have d4 : ∀ s : Desc wu, s.val.cell? ⟨gH, o * 2 + 1, none⟩ = some (.int .i64 (vo.den : Int)) := fun s => s.cell v4
                    have HSUB : Hid (∀ sd : Desc wu, Calls Try.prog 63 #[.agg #[.int .i64 vo.num, .int .i64 (vo.den : Int)], .agg #[.int .i64 va.num, .int .i64 (va.den : Int)]] sd.val fun e w'' => e = .returned (.agg #[.int .i64 z.num, .int .i64 (z.den : Int)]) ∧ ∃ s' : Desc wu, w'' = s'.val) := Lib.hid fun sd => Calls.desc_of (hsub sd.val)
                    have l10 : (o : Int) < (n : Int) + (k : Int) := by omega
                    have l10' : (0 : Int) ≤ (o : Int) := by omega
                    clear hsub v1 v2 v3 v4
                    go_upto_region 34 with fail
                    go_cut [22] (fun b wp => b = .int .i64 o ∧ FwB wp gH (n + k) (hvL n k (upd q.hv o z)) ∧ SpM wp (w.heap.size + 1) n k n rb (upd2 q.sp i g va) ∧ Below w.heap.size w wp)
                    case first =>
                      refine wp_region_desc_tail 12 (by kernel_rfl) (by kernel_rfl) ?_
                      simp only [List.take_succ_cons, List.take_zero, List.drop_succ_cons, List.drop_zero]
                      repeat (go_big_quiet_step (first | (go_at_call 63; exact HSUB.out _)))
                      refine wpQuiet_nil ?_
                      rintro _ ⟨sd, rfl⟩
                      have hb8 := sd.below
                      generalize sd.val = w8 at hb8 ⊢
                      clear d1 d2 d3 d4
                      have hF8 := HUU.out.1.below hb8 HUU.out.1.lt
                      have hM8 := HUU.out.2.1.below hb8
                      have hB8 := HUU.out.2.2.trans (hb8.mono HUU.out.2.2.size)
                      obtain ⟨v3, v4⟩ := hF8.read HGX.out.2
                      have y3 := hF8.frozen (o * 2)
                      have y4 := hF8.frozen (o * 2 + 1)
                      have hF9 := hF8.set_ o z
                      rw [hvL_set a7] at hF9
                      have hM9 : SpM ((w8.setCell ⟨gH, o * 2, none⟩ (.int .i64 z.num)).setCell ⟨gH, o * 2 + 1, none⟩ (.int .i64 (z.den : Int))) (w.heap.size + 1) n k n rb (upd2 q.sp i g va) :=
                        hM8.kept (B := w8.heap.size) (S := [gH]) (((Kept.refl _ _ _).setCell (p := ⟨gH, o * 2, none⟩) (.inl (by simp)) _).setCell (p := ⟨gH, o * 2 + 1, none⟩) (.inl (by simp)) _) (Nat.le_refl _) (by simp; omega) (fun j hj => by simp; exact fun h => H4.out.2.2.2.1 j hj h.symm)
                      have hB9 := (hB8.setCell (p := ⟨gH, o * 2, none⟩) (by show w.heap.size ≤ gH; omega) (.int .i64 z.num)).setCell (p := ⟨gH, o * 2 + 1, none⟩) (by show w.heap.size ≤ gH; omega) (.int .i64 (z.den : Int))
                      have H9 := Lib.hid (And.intro hF9 (And.intro hM9 hB9))
                      clear hF8 hM8 hB8 hb8 hF9 hM9 hB9
                      go_wp2_with fail
                      go_meet
                      case rel => exact ⟨rfl, H9.out⟩
                    obtain ⟨wp, rfl⟩ : ∃ w : World, w = wc := ⟨_, rfl⟩
                    obtain ⟨rfl, hFp, hMp, hBp⟩ := hcut
                    clear d1 d2 d3 d4 HSUB
                    have hgx2 : (hvL n k (upd q.hv o z))[x]? = some ((upd q.hv o z) x) := hvL_get hxnk
                    obtain ⟨v1, v2⟩ := hFp.read hgx2
                    have y3 := hFp.frozen (x * 2)
                    have y4 := hFp.frozen (x * 2 + 1)
                    have hF9 := hFp.set_ x 0
                    rw [hvL_set hxnk] at hF9
                    have hM9 : SpM ((wp.setCell ⟨gH, x * 2, none⟩ (.int .i64 (0 : Rat).num)).setCell ⟨gH, x * 2 + 1, none⟩ (.int .i64 ((0 : Rat).den : Int))) (w.heap.size + 1) n k n rb (upd2 q.sp i g va) :=
                      hMp.kept (B := wp.heap.size) (S := [gH]) (((Kept.refl _ _ _).setCell (p := ⟨gH, x * 2, none⟩) (.inl (by simp)) _).setCell (p := ⟨gH, x * 2 + 1, none⟩) (.inl (by simp)) _) (Nat.le_refl _) (by simp; omega) (fun j hj => by simp; exact fun h => H4.out.2.2.2.1 j hj h.symm)
                    have hB9 := (hBp.setCell (p := ⟨gH, x * 2, none⟩) (by show w.heap.size ≤ gH; omega) (.int .i64 (0 : Rat).num)).setCell (p := ⟨gH, x * 2 + 1, none⟩) (by show w.heap.size ≤ gH; omega) (.int .i64 ((0 : Rat).den : Int))
                    have H9 := Lib.hid (And.intro hF9 (And.intro hM9 hB9))
                    have e1 := pow_wrap pp (by omega)
                    have e1' : wrap64 ((2 : Int) ^ pp) = ((2 ^ pp : Nat) : Int) := by rw [← wrapEq]; exact e1
                    have hcl := andNot_clr (b := pp) hql hpp9
                    obtain ⟨X, hXe⟩ : ∃ X, X = 2 ^ pp := ⟨_, rfl⟩
                    obtain ⟨cl, hce⟩ : ∃ X, X = clr sq pp := ⟨_, rfl⟩
                    rw [← hXe] at e1 e1' hcl
                    rw [← hce] at hcl HNW
                    clear hFp hMp hBp hF9 hM9 hB9 hgx2 hXe hce
                    go_wp2_with fail
                    go_roundw
                    case rel => exact ⟨x + 1, by omega, by go_num, by rw [HNW.out.1], by rw [HNW.out.1]; exact H9.out.1, by rw [HNW.out.1]; exact H9.out.2.1, H9.out.2.2⟩
                    case measure => simp [intOf]; omega
                  · have hc1i : ¬ (cc : Int) = 1 := by omega
                    have HT2 : Hid (spI n k r0 (x + 1) = q) := Lib.hid (by
                      rw [HX.out.2.2.2.1]
                      unfold spX
                      rw [← HNK.out, ← HSQ.out, HPC.out]
                      exact if_neg hc1)
                    clear hspec
                    go_wp2_with fail
                    go_roundw
                    case rel => exact ⟨x + 1, by omega, by go_num, by rw [HT2.out, HSQ.out], by rw [HT2.out]; exact HX.out.1.below HBZ.out HX.out.1.lt, by rw [HT2.out]; exact HX.out.2.1.below HBZ.out, HX.out.2.2.1.trans (HBZ.out.mono HX.out.2.2.1.size)⟩
                    case measure => simp [intOf]; omega
            · obtain rfl : S = x := by omega
              have HE := Lib.hid (And.intro hF (And.intro hM hb))
              clear hF hM hb
              go_wp2_with fail
              go_roundw
              case rel => exact ⟨t + 1, by omega, by go_num, by rw [HNT.out], by rw [HNT.out]; exact HE.out.1, by rw [HNT.out]; exact HE.out.2.1, HE.out.2.2⟩
              case measure => simp [intOf]; omega
        · obtain rfl : S = t := by omega
          have hres : FMat wt (some ⟨w.heap.size + 1, 0, none⟩) (spM n k (spF n k B P set)) := by
            rw [HSI.out.2]
            exact HT.out.2.1.fmat
          have hdz : (decide (((spR n k s0 S).st : Int) = 0)) = decide ((spF n k B P set).st = 0) := by
            rw [HSI.out.2, decide_eq_decide]; omega
          have HE := Lib.hid (And.intro hres (And.intro HT.out.2.2 hdz))
          clear hres hdz
          generalize (spR n k s0 S).st = zz at *
          go_wp2_with fail
          go_ret2
          exact ⟨_, by rw [← HE.out.2.2]; rfl, HE.out.1, HE.out.2.1⟩

/- Contract: Spendings of the reference of the market. -/

/-- What Spendings says of rows of pairs. -/
def spsOk (B : List Int) (V : List (List Int)) (L : List (List (Int × Int))) : Bool := L.all (rowSp V) && decide (L.length = B.length)
set_option maxRecDepth 100000 in
set_option maxHeartbeats 1600000 in
theorem r4spendings_any (A : Option Addr) (n c : Nat) (U : Option Addr) (m d : Nat) (S : Option Addr) (cs : Nat) (B : List Int) (V : List (List Int)) (L : List (List (Int × Int))) (w : World) (h : MktAt w A n U m B V) (hm : 1 ≤ m) (hS : PMat w S L) (hl : L.length ≤ 9223372036854775807) (hi : ∀ r ∈ L, I64s r) (hr : ∀ r ∈ L, r.length ≤ 9223372036854775807) :
    Calls Try.prog 25 #[.agg #[.slice A n c, .slice U m d], .slice S L.length cs] w fun e w' => e = .returned (.bool (spsOk B V L)) ∧ Below w.heap.size w w' := by
  have hb1 : Below w.heap.size w (w.alloc (.cells #[.slice A n c, .slice U m d] 25)) := (Below.refl _ _).alloc (Nat.le_refl _) _
  have hM1 : Blk (w.alloc (.cells #[.slice A n c, .slice U m d] 25)) w.heap.size 25 #[.slice A n c, .slice U m d] := Blk.new _ _ _ rfl
  obtain ⟨aU, rfl, _, hcU⟩ := h.uses.some_ (by rw [h.hV]; omega)
  obtain ⟨R0, c0, hc0, _⟩ := hcU 0 _ (rowV_some (by rw [h.hV]; omega))
  have e0 : aU.add 0 = aU := by simp [Addr.add]
  have hk : (rowV V 0).length = goodsN V := rfl
  rw [e0, hk] at hc0
  obtain ⟨l, hll⟩ : ∃ l, l = L.length := ⟨_, rfl⟩
  rw [← hll] at hl ⊢
  obtain ⟨k, hkk⟩ : ∃ k, k = goodsN V := ⟨_, rfl⟩
  rw [← hkk] at hc0
  have H := Lib.hid (And.intro hS (And.intro hi (And.intro hb1 (And.intro hM1 (And.intro hc0 (And.intro hll (And.intro hr (And.intro hkk h.hB))))))))
  clear h hS hi hb1 hM1 hcU hc0 hll e0 hk hr hkk
  go_enter Try.func25, Try.ntmps25
  go_wp2_with fail
  go_loopw [11] (fun iv wx => ∃ j : Nat, j ≤ l ∧ iv = .int .i64 j ∧ (L.take j).all (rowSp V) = true ∧ Blk wx w.heap.size 25 #[.slice A n c, .slice (some aU) m d] ∧ Below w.heap.size w wx) (fun iv _ => l - (intOf iv).toNat)
  case atStart => exact ⟨0, Nat.zero_le _, rfl, by simp, H.out.2.2.2.1, H.out.2.2.1⟩
  case round =>
    obtain ⟨j, hj, rfl, hall, hmk, hbl⟩ := hrel
    obtain ⟨wo, rfl⟩ : ∃ wo : World, wo = wr := ⟨_, rfl⟩
    have HR := Lib.hid (And.intro hall (And.intro hmk hbl))
    have hml := hmk.lt
    clear hall hmk hbl
    by_cases hlt : j < l
    · obtain ⟨aS, rfl, _, hcS⟩ := H.out.1.some_ (by rw [← H.out.2.2.2.2.2.1]; omega)
      obtain ⟨ps, hps⟩ : ∃ p, L[j]? = some p := ⟨_, List.getElem?_eq_getElem (by rw [← H.out.2.2.2.2.2.1]; exact hlt)⟩
      obtain ⟨A', c', g1, hP⟩ := hcS j _ hps
      have hm' := List.mem_of_getElem? hps
      have hrl := H.out.2.2.2.2.2.2.1 ps hm'
      have hri := H.out.2.1 ps hm'
      obtain ⟨rl, hrle⟩ : ∃ rl, rl = ps.length := ⟨_, rfl⟩
      rw [← hrle] at g1 hrl
      have c0 := (HR.out.2.2.cell (lt_of_cell H.out.2.2.2.2.1)).trans H.out.2.2.2.2.1
      have c1 := (HR.out.2.2.cell (lt_of_cell g1)).trans g1
      obtain ⟨m1, m2, _, _⟩ := HR.out.2.1.at2
      have HNO : rowSp V ps = false → Hid (spsOk B V L = false) := fun h => Lib.hid (by
        unfold spsOk
        rw [all_bad hps h, Bool.false_and])
      have HX := Lib.hid (And.intro hps (And.intro (hP.below HR.out.2.2) (And.intro hri (And.intro hrle HNO))))
      clear hps g1 hcS hP hri hrle HNO hm'
      by_cases hne : rl = k
      · have hrk : ¬ (rl : Int) ≠ (k : Int) := by omega
        subst hne
        go_wp2_with fail
        clear c1 m1 m2 c0
        go_loopw [25] (fun iv wx => ∃ i : Nat, i ≤ rl ∧ iv = .int .i64 i ∧ (ps.take i).all (okF 0) = true ∧ Below wo.heap.size wo wx) (fun iv _ => rl - (intOf iv).toNat)
        case atStart => exact ⟨0, Nat.zero_le _, rfl, by simp, Below.refl _ _⟩
        case round =>
          obtain ⟨i, hi, rfl, hall, hbl⟩ := hrel
          obtain ⟨wi, rfl⟩ : ∃ wo : World, wo = wr := ⟨_, rfl⟩
          have HI := Lib.hid (And.intro hall hbl)
          clear hall hbl
          by_cases hlt2 : i < rl
          · obtain ⟨aP, hAP, _, hcP⟩ := (HX.out.2.1.below HI.out.2).some_ (by rw [← HX.out.2.2.2.1]; omega)
            subst hAP
            obtain ⟨⟨a, b⟩, hp⟩ : ∃ p, ps[i]? = some p := ⟨_, List.getElem?_eq_getElem (by rw [← HX.out.2.2.2.1]; exact hlt2)⟩
            obtain ⟨c0, c1⟩ := hcP i _ hp
            obtain ⟨ra, rb⟩ := HX.out.2.2.1 _ (List.mem_of_getElem? hp)
            simp only at c0 c1 ra rb
            have hbz : Below wi.heap.size wi (wi.alloc (.cells #[.int .i64 a, .int .i64 b] 37)) := (Below.refl _ _).alloc (Nat.le_refl _) _
            have HP := Lib.hid (And.intro hp hbz)
            have HLW := Lib.hid fun w' => rlowest_any a b w' ra.1 ra.2 rb.2
            clear hp hcP hbz
            go_wp2_with fail
            refine (HLW.out _).mono ?_
            rintro e w2 ⟨rfl, hb2⟩
            have hX2 : Blk w2 wi.heap.size 37 #[.int .i64 a, .int .i64 b] := (Blk.new _ _ _ rfl).below hb2 (by simp)
            have hbo2 := HI.out.2.trans ((HP.out.2.trans (hb2.mono HP.out.2.size)).mono HI.out.2.size)
            have H2 := Lib.hid (And.intro hbo2 (HR.out.2.2.trans (hbo2.mono HR.out.2.2.size)))
            obtain ⟨x0, x1, _, _⟩ := hX2.at2
            have hok := okF_low (least := 0) (a := a) (b := b) (by decide)
            have HNO : okF 0 (a, b) = false → Hid (spsOk B V L = false) := fun h => HX.out.2.2.2.2 (by
              unfold rowSp
              rw [all_bad HP.out.1 h, Bool.false_and])
            have HOK := Lib.hid (And.intro hok HNO)
            clear hX2 hbo2 hb2 c0 c1 HLW hok HNO
            cases hlow : lowB a b with
            | false =>
              have HN := HOK.out.2 (by rw [HOK.out.1, hlow]; rfl)
              clear hlow
              go_wp2_with fail
              go_ret
              exact ⟨by rw [HN.out]; rfl, H2.out.2⟩
            | true =>
              have HL := Lib.hid hlow
              clear hlow
              by_cases h1 : a < 0
              · have HN := HOK.out.2 (by rw [HOK.out.1, decide_eq_false (show ¬ 0 ≤ a by omega)]; simp)
                go_wp2_with fail
                go_ret
                exact ⟨by rw [HN.out]; rfl, H2.out.2⟩
              by_cases h2 : 1048576 < a
              · have HN := HOK.out.2 (by rw [HOK.out.1, decide_eq_false (show ¬ a ≤ 1048576 by omega)]; simp)
                go_wp2_with fail
                go_ret
                exact ⟨by rw [HN.out]; rfl, H2.out.2⟩
              by_cases h3 : 1048576 < b
              · have HN := HOK.out.2 (by rw [HOK.out.1, decide_eq_false (show ¬ b ≤ 1048576 by omega)]; simp)
                go_wp2_with fail
                go_ret
                exact ⟨by rw [HN.out]; rfl, H2.out.2⟩
              have HY : Hid (okF 0 (a, b) = true) := Lib.hid (by rw [HOK.out.1, HL.out, decide_eq_true (show 0 ≤ a by omega), decide_eq_true (show a ≤ 1048576 by omega), decide_eq_true (show b ≤ 1048576 by omega)]; rfl)
              go_wp2_with fail
              go_roundw
              case rel => exact ⟨i + 1, by omega, by go_num, all_take_s HP.out.1 HI.out.1 HY.out, H2.out.1⟩
              case measure => simp [intOf]; omega
          · obtain rfl : rl = i := by omega
            have hall := HI.out.1
            rw [List.take_of_length_le (by rw [← HX.out.2.2.2.1]; exact Nat.le_refl _)] at hall
            have hrow : rowSp V ps = true := by
              unfold rowSp
              rw [hall, ← HX.out.2.2.2.1, decide_eq_true H.out.2.2.2.2.2.2.2.1]; rfl
            have HRW := Lib.hid hrow
            clear hall hrow
            go_wp2_with fail
            go_roundw
            case rel => exact ⟨j + 1, by omega, by go_num, all_take_s HX.out.1 HR.out.1 HRW.out, HR.out.2.1.below HI.out.2 hml, HR.out.2.2.trans (HI.out.2.mono HR.out.2.2.size)⟩
            case measure => simp [intOf]; omega
      · have hne' : ¬ ((rl : Int) = (k : Int)) := by omega
        have HN := HX.out.2.2.2.2 (by
          unfold rowSp
          rw [decide_eq_false (by rw [← HX.out.2.2.2.1, ← H.out.2.2.2.2.2.2.2.1]; exact hne), Bool.and_false])
        go_wp2_with fail
        go_ret
        exact ⟨by rw [HN.out]; rfl, HR.out.2.2⟩
    · obtain rfl : l = j := by omega
      obtain ⟨m1, m2, _, _⟩ := HR.out.2.1.at2
      have hall := HR.out.1
      rw [List.take_of_length_le (by rw [← H.out.2.2.2.2.2.1]; exact Nat.le_refl _)] at hall
      have hres : spsOk B V L = decide ((l : Int) = (n : Int)) := by
        unfold spsOk
        rw [hall, ← H.out.2.2.2.2.2.1, H.out.2.2.2.2.2.2.2.2, Bool.true_and, decide_eq_decide]
        omega
      have HRES := Lib.hid hres
      clear hall hres
      go_wp2_with fail
      go_ret
      refine ⟨?_, HR.out.2.2⟩
      rw [HRES.out]
      rfl

/- Contract: Solve of the reference of the market. -/

/-- Whether a set of pairs is the one that Solve takes. -/
def solOk (B : List Int) (V : List (List Int)) (n k set : Nat) : Bool :=
  forestF V n k set && (prsOk V ((pricedL B V n k set).map pr) && (decide ((spF n k B (pricedL B V n k set) set).st = 0) && (spsOk B V ((spM n k (spF n k B (pricedL B V n k set) set)).map (·.map pr)) && balB B V (pricedL B V n k set) (spM n k (spF n k B (pricedL B V n k set) set)))))
theorem forest_use {V : List (List Int)} {n k set : Nat} (hb : ∀ i g, 0 ≤ useN V i g ∧ useN V i g ≤ 20) (h : forestF V n k set = true) : ∀ i x, i < n → x < k → set.testBit (i * k + x) = true → 1 ≤ useN V i x ∧ useN V i x ≤ 20 := by
  intro i x hi hx hbit
  unfold forestF at h
  rw [Bool.and_eq_true] at h
  have h1 := List.all_eq_true.1 (List.all_eq_true.1 h.1 i (List.mem_range.2 hi)) x (List.mem_range.2 hx)
  unfold edgeOk at h1
  rw [hbit, Bool.not_true, Bool.false_or, Bool.and_eq_true, bne_iff_ne] at h1
  have := hb i x
  omega
/-- A set that Solve takes is there for every valid market. -/
theorem sol_ex {B : List Int} {V : List (List Int)} (hv : validM B V = true) : ∃ e, e < 2 ^ (B.length * goodsN V) ∧ solOk B V B.length (goodsN V) e = true := by
  obtain ⟨hmk, hrow, hub⟩ := mkOk_of hv
  obtain ⟨⟨a1, a2, a3, a4⟩, b1, b2, b3⟩ := validM_iff.1 hv
  obtain ⟨r, hr⟩ := found_any B V hv
  have hpr : prF B V = some r := by unfold prF; rw [if_pos hv]; exact hr
  obtain ⟨_, hsol⟩ := prF_ok hpr
  have hE0 := hsol.equi hv
  obtain ⟨s, e, hE, he, hm, hc⟩ := least_sp ⟨a1, a2⟩ b1 _ _ hE0 (Nat.le_refl _)
  refine ⟨e, he, ?_⟩
  generalize hn' : B.length = n at *
  generalize hk' : goodsN V = k at *
  have hu : ∀ i x, i < n → x < k → e.testBit (i * k + x) = true → 1 ≤ useN V i x ∧ useN V i x ≤ 20 := fun i x hi hx hb => by
    have h1 := hE.use hmk.us hi hx ((hm i x hi hx).1 hb)
    unfold useQ at h1
    have h2 : (0 : Int) < useN V i x := by exact_mod_cast h1
    have := hub i x
    omega
  have hcov : covB n k e = true := by
    unfold covB
    rw [Bool.and_eq_true, List.all_eq_true, List.all_eq_true]
    refine ⟨fun i hi => ?_, fun g hg => ?_⟩
    · rw [List.any_eq_true]
      by_cases hx : ∃ x, x < k ∧ s i x ≠ 0
      · obtain ⟨x, h1, h2⟩ := hx
        exact ⟨x, List.mem_range.2 h1, (hm i x (List.mem_range.1 hi) h1).2 h2⟩
      · exfalso
        have h1 := hE.row i (List.mem_range.1 hi)
        rw [sumQ_zero fun x hh => by
          by_cases h0 : s i x = 0
          · exact h0
          · exact absurd ⟨x, hh, h0⟩ hx] at h1
        have := hmk.bp i (List.mem_range.1 hi)
        grind
    · rw [List.any_eq_true]
      by_cases hx : ∃ i, i < n ∧ s i g ≠ 0
      · obtain ⟨i, h1, h2⟩ := hx
        exact ⟨i, List.mem_range.2 h1, (hm i g h1 (List.mem_range.1 hg)).2 h2⟩
      · exfalso
        have h1 := hE.col g (List.mem_range.1 hg)
        rw [sumQ_zero fun i hh => by
          by_cases h0 : s i g = 0
          · exact h0
          · exact absurd ⟨i, hh, h0⟩ hx] at h1
        have := hE.pos g (List.mem_range.1 hg)
        grind
  have hfor := (one_parts ⟨a1, a2⟩ b1 he).1 hc hcov
  have hF : forestF V n k e = true := by
    unfold forB at hfor
    unfold forestF
    rw [Bool.and_eq_true, List.all_eq_true] at hfor ⊢
    refine ⟨fun i hi => ?_, hfor.2⟩
    have h1 := hfor.1 i hi
    rw [List.all_eq_true] at h1 ⊢
    intro g hg
    have h2 := h1 g hg
    unfold pairOk at h2
    unfold edgeOk
    cases hb : e.testBit (i * k + g) with
    | false => rfl
    | true =>
      rw [hb, Bool.not_true, Bool.false_or] at h2
      have h3 := hu i g (List.mem_range.1 hi) (List.mem_range.1 hg) hb
      have h4 : (useN V i g != 0) = true := by rw [bne_iff_ne]; omega
      rw [h4, h2]; rfl
  obtain ⟨hsome, T, t1, t2, hsz⟩ := priced_sz (B := B) (V := V) ⟨a1, a2⟩ b1 he a3 hu
  have hP : pricedL B V n k e = r.1 := by
    apply List.ext_getElem?
    intro g
    by_cases hg : g < k
    · unfold pricedL
      rw [List.getElem?_map, List.getElem?_range hg]
      obtain ⟨q, hq⟩ := Option.isSome_iff_exists.1 (hsome g hg)
      have h1 := out_pq hE hm ⟨a1, a2⟩ b1 he hu k (Nat.le_refl _) g q hq
      have h2 : r.1[g]? = some (priQ r.1 g) := by
        unfold priQ
        rw [List.getD_eq_getElem?_getD, List.getElem?_eq_getElem (by rw [hsol.lp]; exact hg)]; rfl
      rw [h2]
      show some ((outF B V n k e k g).getD 0) = _
      rw [hq, Option.getD_some, h1]
    · rw [List.getElem?_eq_none (by simp [pricedL]; omega), List.getElem?_eq_none (by rw [hsol.lp]; omega)]
  obtain ⟨z0, z1⟩ := spF_equi (B := B) (P := r.1) ⟨a1, a2⟩ b1 he hc hE hm (fun g _ => rfl)
  have hs512 : e < 512 := by
    have h2 : n * k ≤ 3 * 3 := Nat.mul_le_mul a2 b1.2
    have : 2 ^ (n * k) ≤ 2 ^ 9 := Nat.pow_le_pow_right (by omega) h2
    have h3 : (2 : Nat) ^ 9 = 512 := by decide
    omega
  have hsp := (spF_sz (B := B) (P := r.1) (set := e) hs512 ⟨a1, a2⟩ b1 ⟨t1, t2⟩ a3 (by rw [← hP]; exact hsz)).2 (n + k)
  have hspd : ∀ i g, i < n → g < k → spd (spM n k (spF n k B r.1 e)) i g = s i g := fun i g hi hg => by
    unfold spd rowQ spM
    rw [List.getD_eq_getElem?_getD, List.getD_eq_getElem?_getD, List.getElem?_map, List.getElem?_range hi]
    simp only [Option.map_some, Option.getD_some]
    rw [List.getElem?_map, List.getElem?_range hg]
    exact z1 i g hi hg
  have hprs : prsOk V (r.1.map pr) = true := by
    unfold prsOk
    rw [prices_okF hsol.ps, List.length_map, hk', decide_eq_true hsol.lp]; rfl
  have hsps : spsOk B V ((spM n k (spF n k B r.1 e)).map (·.map pr)) = true := by
    unfold spsOk
    rw [List.length_map, hn', show (spM n k (spF n k B r.1 e)).length = n by simp [spM], decide_eq_true rfl, Bool.and_true, List.all_eq_true]
    intro x hx
    obtain ⟨y, hy, rfl⟩ := List.mem_map.1 hx
    obtain ⟨i, hi, rfl⟩ := List.mem_map.1 hy
    unfold rowSp
    rw [hk', List.length_map, List.length_map, List.length_range, decide_eq_true rfl, Bool.and_true, List.all_eq_true]
    intro y hy
    obtain ⟨v, hv, rfl⟩ := List.mem_map.1 hy
    obtain ⟨g, hg, rfl⟩ := List.mem_map.1 hv
    have h1 := hsp.sp i g
    have h2 := z1 i g (List.mem_range.1 hi) (List.mem_range.1 hg)
    have h3 := hE.nn i g (List.mem_range.1 hi) (List.mem_range.1 hg)
    rw [← h2] at h3
    have h4 := Rat.num_nonneg.2 h3
    have hd := den_pos ((spF n k B r.1 e).sp i g)
    have h5 : ((spF n k B r.1 e).sp i g).num.natAbs ≤ 288000 ∧ (((spF n k B r.1 e).sp i g).den : Int) ≤ 1200 := h1
    exact okF_iff.2 ⟨h4, by omega, by omega, by omega, rat_lowest _⟩
  have hbal : balB B V r.1 (spM n k (spF n k B r.1 e)) = true := by
    refine (bal_equi hn' hsol.lp (fun q hq => (hsol.ps q hq).ok.pos) hrow (fun i g => (hub i g).1)).2 ?_
    exact {
      pos := hE.pos
      nn := fun i g hi hg => by rw [hspd i g hi hg]; exact hE.nn i g hi hg
      row := fun i hi => by rw [← hE.row i hi]; exact sumQ_congr fun g hg => hspd i g hi hg
      col := fun g hg => by rw [← hE.col g hg]; exact sumQ_congr fun i hi => hspd i g hi hg
      want := fun i g hi hg h0 => hE.want i g hi hg (by rwa [hspd i g hi hg] at h0) }
  unfold solOk
  rw [hP, hF, hprs, hsps, hbal, decide_eq_true z0]; rfl
theorem i64_sz {q : Rat} (h : q.num.natAbs ≤ 288000 ∧ (q.den : Int) ≤ 1200) : (-9223372036854775808 ≤ q.num ∧ q.num ≤ 9223372036854775807) ∧ -9223372036854775808 ≤ (q.den : Int) ∧ (q.den : Int) ≤ 9223372036854775807 := by
  have := den_pos q
  omega
theorem priced_i64 {B : List Int} {V : List (List Int)} {n k set : Nat} {T : Int} (hT : 1 ≤ T ∧ T ≤ 1200) (h : ∀ q ∈ pricedL B V n k set, (0 ≤ q ∧ q ≤ 60) ∧ ∃ z : Int, q = (z : Rat) / (T : Rat)) : I64s ((pricedL B V n k set).map pr) := by
  intro x hx
  obtain ⟨q, hq, rfl⟩ := List.mem_map.1 hx
  obtain ⟨⟨h1, h2⟩, z, hz⟩ := h q hq
  exact i64_sz (sz_of hT hz (by grind) (by grind))
set_option maxRecDepth 100000 in
set_option maxHeartbeats 8000000 in
theorem r4solve_any (A : Option Addr) (n c : Nat) (U : Option Addr) (d k : Nat) (B : List Int) (V : List (List Int)) (w : World) (h : MkIn w A n U k B V) (hv : validM B V = true) :
    Calls Try.prog 24 #[.agg #[.slice A n c, .slice U n d]] w fun e w' => ∃ pa sa set, e = .returned (.tuple #[.slice pa k k, .slice sa n n, .bool true]) ∧ set < 512 ∧ set < 2 ^ (n * k) ∧ solOk B V n k set = true ∧ Fracs w' pa (pricedL B V n k set) ∧ FMat w' sa (spM n k (spF n k B (pricedL B V n k set) set)) ∧ Below w.heap.size w w' := by
  have hn := h.hn
  have hk := h.hk
  have hex := sol_ex hv
  rw [h.mkt.hB, h.hg] at hex
  obtain ⟨w1, hw1⟩ : ∃ w1, w1 = w.alloc (.cells #[.slice A n c, .slice U n d] 25) := ⟨_, rfl⟩
  have hb1 : Below w.heap.size w w1 := by rw [hw1]; exact (Below.refl _ _).alloc (Nat.le_refl _) _
  have hM1 : Blk w1 w.heap.size 25 #[.slice A n c, .slice U n d] := by rw [hw1]; exact Blk.new _ _ _ rfl
  obtain ⟨aU, rfl, _, _⟩ := h.mkt.uses.some_ (by rw [h.mkt.hV]; omega)
  obtain ⟨NK, hNK⟩ : ∃ N, N = n * k := ⟨_, rfl⟩
  have hNKw : (n : Int) * (k : Int) = (NK : Int) := by rw [hNK]; push_cast; rfl
  have hNK9 : NK ≤ 9 := by rw [hNK]; have := Nat.mul_le_mul hn.2 hk.2; omega
  have e1 := pow_wrap NK (by omega)
  have e1' : wrap64 ((2 : Int) ^ NK) = ((2 ^ NK : Nat) : Int) := by rw [← wrapEq]; exact e1
  have hX5 : 2 ^ NK ≤ 512 := by
    have : 2 ^ NK ≤ 2 ^ 9 := Nat.pow_le_pow_right (by omega) hNK9
    have h3 : (2 : Nat) ^ 9 = 512 := by decide
    omega
  rw [← hNK] at hex
  obtain ⟨X, hXe⟩ : ∃ X, X = 2 ^ NK := ⟨_, rfl⟩
  have hXnk : X = 2 ^ (n * k) := by rw [hXe, hNK]
  rw [← hXe] at e1 e1' hX5 hex
  have hub := (mkOk_of hv).2.2
  have H := Lib.hid (And.intro hM1 (And.intro hb1 (And.intro h (And.intro hex (And.intro hXnk (And.intro hub hv))))))
  have hwl := hM1.lt
  obtain ⟨m1, m2, _, _⟩ := hM1.at2
  obtain ⟨A0, c0, h01, h02, h03⟩ : ∃ A0 c0, w1.cell? aU = some (.slice A0 k c0) ∧ k ≤ c0 ∧ c0 ≤ 9223372036854775807 := by
    obtain ⟨aU', hUA, _, hcU⟩ := (h.mkt.uses.below hb1).some_ (by rw [h.mkt.hV]; omega)
    injection hUA with hUA
    subst hUA
    obtain ⟨A0, c0, x1, x2, x3, _⟩ := hcU 0 _ (rowV_some (by rw [h.mkt.hV]; omega))
    have ea : aU.add 0 = aU := by simp [Addr.add]
    have hg : (rowV V 0).length = k := h.hg
    rw [ea, hg] at x1
    rw [hg] at x2
    exact ⟨A0, c0, x1, x2, x3⟩
  clear h hM1 hb1 hex hNK hXe hXnk hub hv
  go_enter Try.func24, Try.ntmps24
  go_upto_region 1 with fail
  rw [← hw1]
  clear hw1
  go_cut [5, 6] (fun a b wx => a = .int .i64 n ∧ b = .int .i64 k ∧ Below w1.heap.size w1 wx)
  case first =>
    go_quiet (fail)
    go_wp2_with fail
    go_meet
    case rel => exact ⟨rfl, rfl, below_drewN (Below.refl _ _) _⟩
  obtain ⟨w2, rfl⟩ : ∃ w : World, w = wc := ⟨_, rfl⟩
  obtain ⟨rfl, rfl, hb2⟩ := hcut
  have H2 := Lib.hid hb2
  clear hb2 m1 m2 h01 h02 h03
  go_wp2_with fail
  go_loopw [24] (fun iv wx => ∃ j : Nat, j ≤ X ∧ iv = .int .i64 j ∧ (∀ e, e < j → solOk B V n k e = false) ∧ Below w1.heap.size w1 wx) (fun iv _ => X - (intOf iv).toNat)
  case atStart => exact ⟨0, Nat.zero_le _, rfl, fun e he => by omega, H2.out⟩
  case round =>
    obtain ⟨j, hj, rfl, hno, hbl⟩ := hrel
    obtain ⟨wo, rfl⟩ : ∃ w : World, w = wr := ⟨_, rfl⟩
    have HR := Lib.hid (And.intro hno (And.intro hbl (H.out.2.1.trans (hbl.mono H.out.2.1.size))))
    clear hno hbl
    by_cases hjX : j < X
    · have l1 : (j : Int) < (X : Int) := by omega
      have hj5 : j < 512 := by omega
      have hnx : solOk B V n k j = false → ∀ e, e < j + 1 → solOk B V n k e = false := fun h e he => by
        rcases Nat.lt_or_ge e j with h1 | h1
        · exact HR.out.1 e h1
        · rw [show e = j by omega]; exact h
      have HNX := Lib.hid hnx
      obtain ⟨m1, m2, _, _⟩ := (H.out.1.below HR.out.2.1 hwl).at2
      have HFO := Lib.hid (r4forest_any A n c (some aU) d k j B V wo (H.out.2.2.1.below HR.out.2.2) hj5)
      clear hnx
      go_wp2_with fail
      refine HFO.out.mono ?_
      rintro e w3 ⟨rfl, hb3⟩
      have H3 := Lib.hid (And.intro (HR.out.2.1.trans (hb3.mono HR.out.2.1.size)) (HR.out.2.2.trans (hb3.mono HR.out.2.2.size)))
      clear hb3 m1 m2 HFO
      cases hfo : forestF V n k j with
      | false =>
        have HE := Lib.hid (HNX.out (by unfold solOk; rw [hfo, Bool.false_and]))
        clear hfo
        go_wp2_with fail
        go_roundw
        case rel => exact ⟨j + 1, by omega, by go_num, HE.out, H3.out.1⟩
        case measure => simp [intOf]; omega
      | true =>
        have hu := forest_use H.out.2.2.2.2.2.1 hfo
        obtain ⟨hsome, T, t1, t2, hsz⟩ := priced_sz (B := B) (V := V) (set := j) hn hk (by rw [← H.out.2.2.2.2.1]; exact hjX) H.out.2.2.1.buds hu
        have HPD := Lib.hid (r4priced_any A n c (some aU) d k j B V w3 (H.out.2.2.1.below H3.out.2) hj5 hu hsome)
        have hso : solOk B V n k j = (prsOk V ((pricedL B V n k j).map pr) && (decide ((spF n k B (pricedL B V n k j) j).st = 0) && (spsOk B V ((spM n k (spF n k B (pricedL B V n k j) j)).map (·.map pr)) && balB B V (pricedL B V n k j) (spM n k (spF n k B (pricedL B V n k j) j))))) := by
          unfold solOk; rw [hfo, Bool.true_and]
        have hpi := priced_i64 ⟨t1, t2⟩ hsz
        have hpl : (pricedL B V n k j).length = k := by simp [pricedL]
        have HSZ := Lib.hid (And.intro hsz (And.intro hso (And.intro hpi (And.intro hpl (spF_sz hj5 hn hk ⟨t1, t2⟩ H.out.2.2.1.buds hsz).2))))
        obtain ⟨m1, m2, _, _⟩ := (H.out.1.below H3.out.1 hwl).at2
        clear hfo hu hsome hsz hso hpi hpl
        go_wp2_with fail
        refine HPD.out.mono ?_
        rintro e w4 ⟨gp, rfl, hF4, hb4⟩
        have H4 := Lib.hid (And.intro hF4 (And.intro (H3.out.1.trans (hb4.mono H3.out.1.size)) (H3.out.2.trans (hb4.mono H3.out.2.size))))
        clear hF4 hb4 m1 m2 HPD
        obtain ⟨m1, m2, _, _⟩ := (H.out.1.below H4.out.2.1 hwl).at2
        have HPR := r4prices_any A n c (some aU) n d (some ⟨gp, 0, none⟩) k B V ((pricedL B V n k j).map pr) w4 (H.out.2.2.1.mkt.below H4.out.2.2) hn.1 H4.out.1 (by rw [List.length_map, HSZ.out.2.2.2.1]; omega) HSZ.out.2.2.1
        rw [List.length_map, HSZ.out.2.2.2.1] at HPR
        have HPR := Lib.hid HPR
        go_wp2_with fail
        refine HPR.out.mono ?_
        rintro e w5 ⟨rfl, hb5⟩
        have H5 := Lib.hid (And.intro (H4.out.1.below hb5) (And.intro (H4.out.2.1.trans (hb5.mono H4.out.2.1.size)) (H4.out.2.2.trans (hb5.mono H4.out.2.2.size))))
        clear hb5 m1 m2 HPR
        cases hpb : prsOk V ((pricedL B V n k j).map pr) with
        | false =>
          have HE := Lib.hid (HNX.out (by rw [HSZ.out.2.1, hpb, Bool.false_and]))
          clear hpb
          go_wp2_with fail
          go_roundw
          case rel => exact ⟨j + 1, by omega, by go_num, HE.out, H5.out.2.1⟩
          case measure => simp [intOf]; omega
        | true =>
          have HPB := Lib.hid hpb
          have HSP := Lib.hid (r4spent_any A n c (some aU) d k j k (some ⟨gp, 0, none⟩) B V (pricedL B V n k j) T w5 (H.out.2.2.1.below H5.out.2.2) hj5 H5.out.1 HSZ.out.2.2.2.1 ⟨t1, t2⟩ HSZ.out.1)
          obtain ⟨m1, m2, _, _⟩ := (H.out.1.below H5.out.2.1 hwl).at2
          clear hpb
          go_wp2_with fail
          refine HSP.out.mono ?_
          rintro e w6 ⟨gs, rfl, hF6, hb6⟩
          have H6 := Lib.hid (And.intro (H5.out.1.below hb6) (And.intro hF6 (And.intro (H5.out.2.1.trans (hb6.mono H5.out.2.1.size)) (H5.out.2.2.trans (hb6.mono H5.out.2.2.size)))))
          clear hF6 hb6 m1 m2 HSP
          cases hst : decide ((spF n k B (pricedL B V n k j) j).st = 0) with
          | false =>
            have HE := Lib.hid (HNX.out (by rw [HSZ.out.2.1, hst, Bool.false_and, Bool.and_false]))
            clear hst
            go_wp2_with fail
            go_roundw
            case rel => exact ⟨j + 1, by omega, by go_num, HE.out, H6.out.2.2.1⟩
            case measure => simp [intOf]; omega
          | true =>
            have HST := Lib.hid hst
            clear hst
            have hml : (spM n k (spF n k B (pricedL B V n k j) j)).length = n := by simp [spM]
            have hrl : ∀ r ∈ spM n k (spF n k B (pricedL B V n k j) j), r.length = k := fun r hr => by
              obtain ⟨i, _, rfl⟩ := List.mem_map.1 hr
              simp
            have hml' : ((spM n k (spF n k B (pricedL B V n k j) j)).map (·.map pr)).length = n := by rw [List.length_map]; exact hml
            have HPS := r4spendings_any A n c (some aU) n d (some ⟨gs, 0, none⟩) n B V ((spM n k (spF n k B (pricedL B V n k j) j)).map (·.map pr)) w6 (H.out.2.2.1.mkt.below H6.out.2.2.2) hn.1 H6.out.2.1.pmat (by rw [hml']; omega)
              (fun r hr => by
                obtain ⟨y, hy, rfl⟩ := List.mem_map.1 hr
                intro x hx
                obtain ⟨q, hq, rfl⟩ := List.mem_map.1 hx
                obtain ⟨i, _, rfl⟩ := List.mem_map.1 hy
                obtain ⟨g, _, rfl⟩ := List.mem_map.1 hq
                exact i64_sz ((HSZ.out.2.2.2.2 (n + k)).sp i g))
              (fun r hr => by
                obtain ⟨y, hy, rfl⟩ := List.mem_map.1 hr
                rw [List.length_map, hrl y hy]; omega)
            rw [hml'] at HPS
            have HPS := Lib.hid HPS
            obtain ⟨m1, m2, _, _⟩ := (H.out.1.below H6.out.2.2.1 hwl).at2
            have HML := Lib.hid (And.intro hml hrl)
            clear hml hrl hml'
            go_wp2_with fail
            refine HPS.out.mono ?_
            rintro e w7 ⟨rfl, hb7⟩
            have H7 := Lib.hid (And.intro (H6.out.1.below hb7) (And.intro (H6.out.2.1.below hb7) (And.intro (H6.out.2.2.1.trans (hb7.mono H6.out.2.2.1.size)) (H6.out.2.2.2.trans (hb7.mono H6.out.2.2.2.size)))))
            clear hb7 m1 m2 HPS
            cases hss : spsOk B V ((spM n k (spF n k B (pricedL B V n k j) j)).map (·.map pr)) with
            | false =>
              have HE := Lib.hid (HNX.out (by rw [HSZ.out.2.1, hss, Bool.false_and, Bool.and_false, Bool.and_false]))
              clear hss
              go_wp2_with fail
              go_roundw
              case rel => exact ⟨j + 1, by omega, by go_num, HE.out, H7.out.2.2.1⟩
              case measure => simp [intOf]; omega
            | true =>
              have HSS := Lib.hid hss
              have hpo : ∀ q ∈ pricedL B V n k j, PrOk q := fun q hq => by
                have h1 := HPB.out
                unfold prsOk at h1
                rw [Bool.and_eq_true] at h1
                rw [List.all_eq_true] at h1
                obtain ⟨a1, a2, a3, a4, _⟩ := okF_iff.1 (h1.1 _ (List.mem_map.2 ⟨q, hq, rfl⟩))
                exact ⟨a1, a2, a4⟩
              have hqo : ∀ r ∈ spM n k (spF n k B (pricedL B V n k j) j), ∀ q ∈ r, Q20 q := fun r hr q hq => by
                have h1 := HSS.out
                unfold spsOk at h1
                rw [Bool.and_eq_true, List.all_eq_true] at h1
                have h2 := h1.1 _ (List.mem_map.2 ⟨r, hr, rfl⟩)
                unfold rowSp at h2
                rw [Bool.and_eq_true, List.all_eq_true] at h2
                have h3 := h2.1 _ (List.mem_map.2 ⟨q, hq, rfl⟩)
                obtain ⟨a1, a2, a3, a4, _⟩ := okF_iff.1 h3
                exact ⟨a1, a2, a4⟩
              have HBL := Lib.hid (r4balance_any A n c (some aU) d k k n (some ⟨gp, 0, none⟩) (some ⟨gs, 0, none⟩) B V (pricedL B V n k j) (spM n k (spF n k B (pricedL B V n k j) j)) w7 (H.out.2.2.1.below H7.out.2.2.2) H7.out.1 HSZ.out.2.2.2.1 hpo H7.out.2.1 HML.out.1 HML.out.2 hqo)
              obtain ⟨m1, m2, _, _⟩ := (H.out.1.below H7.out.2.2.1 hwl).at2
              clear hss hpo hqo
              go_wp2_with fail
              refine HBL.out.mono ?_
              rintro e w8 ⟨rfl, hb8⟩
              have H8 := Lib.hid (And.intro (H7.out.1.below hb8) (And.intro (H7.out.2.1.below hb8) (And.intro (H7.out.2.2.1.trans (hb8.mono H7.out.2.2.1.size)) (H7.out.2.2.2.trans (hb8.mono H7.out.2.2.2.size)))))
              clear hb8 m1 m2 HBL
              cases hbb : balB B V (pricedL B V n k j) (spM n k (spF n k B (pricedL B V n k j) j)) with
              | false =>
                have HE := Lib.hid (HNX.out (by rw [HSZ.out.2.1, hbb, Bool.and_false, Bool.and_false, Bool.and_false]))
                clear hbb
                go_wp2_with fail
                go_roundw
                case rel => exact ⟨j + 1, by omega, by go_num, HE.out, H8.out.2.2.1⟩
                case measure => simp [intOf]; omega
              | true =>
                have HYES := Lib.hid (show solOk B V n k j = true by rw [HSZ.out.2.1, HPB.out, HST.out, HSS.out, hbb]; rfl)
                clear hbb
                go_wp2_with fail
                have HB1 := Lib.hid (H.out.2.1.trans (H8.out.2.2.1.mono H.out.2.1.size))
                first | go_ret3 | (refine bodyPost_ret (results_tmp3 rfl _ _ _) rfl ?_)
                exact ⟨_, _, j, rfl, hj5, by rw [← H.out.2.2.2.2.1]; exact hjX, HYES.out, H8.out.1, H8.out.2.1, HB1.out⟩
    · obtain rfl : X = j := by omega
      exfalso
      obtain ⟨e, he, h1⟩ := H.out.2.2.2.1
      rw [HR.out.1 e he] at h1
      cases h1

/- MarketPrices: the walk. -/

theorem sol_sps {B : List Int} {V : List (List Int)} {r : List Rat × List (List Rat)} (hP : prF B V = some r) : spsOk B V (r.2.map (·.map pr)) = true ∧ balB B V r.1 r.2 = true ∧ (∀ q ∈ r.1, PrOk q) ∧ ∀ x ∈ r.2, ∀ q ∈ x, Q20 q := by
  have h := chk_sol hP
  unfold chkB at h
  simp only [Bool.and_eq_true, decide_eq_true_eq] at h
  obtain ⟨h1, h2, h3, h4⟩ := h
  have e2 : (r.2.map (·.map pr)).map toQ = r.2 := by
    rw [List.map_map]
    conv => rhs; rw [← List.map_id r.2]
    exact List.map_congr_left fun x _ => toQ_of_pr x
  rw [toQ_of_pr, e2] at h4
  refine ⟨?_, h4, ?_, ?_⟩
  · unfold spsOk
    rw [h3, h2, decide_eq_true rfl]; rfl
  · have h5 := toQ_ok (prices_okF (prF_ok hP).2.ps)
    rwa [toQ_of_pr] at h5
  · intro x hx q hq
    have h5 := List.all_eq_true.1 (sps_okF hP hx) _ (List.mem_map.2 ⟨q, hq, rfl⟩)
    obtain ⟨a1, a2, a3, a4, _⟩ := okF_iff.1 h5
    exact ⟨a1, a2, a4⟩
theorem sol_pri {B : List Int} {V : List (List Int)} {r : List Rat × List (List Rat)} (hP : prF B V = some r) {n k set : Nat} (h : solOk B V n k set = true) : pricedL B V n k set = r.1 := by
  unfold solOk at h
  simp only [Bool.and_eq_true, decide_eq_true_eq] at h
  obtain ⟨_, h2, _, h4, h5⟩ := h
  have hc : chkB B V ((pricedL B V n k set).map pr) ((spM n k (spF n k B (pricedL B V n k set) set)).map (·.map pr)) = true := by
    unfold chkB
    unfold spsOk at h4
    simp only [Bool.and_eq_true, decide_eq_true_eq] at h4 ⊢
    refine ⟨h2, h4.2, h4.1, ?_⟩
    rw [toQ_of_pr, List.map_map]
    have e2 : ∀ l : List (List Rat), l.map (toQ ∘ fun x => x.map pr) = l := fun l => by
      conv => rhs; rw [← List.map_id l]
      exact List.map_congr_left fun x _ => toQ_of_pr x
    rw [e2]
    exact h5
  have h6 := chk_only hP hc
  have h7 := congrArg toQ h6
  rwa [toQ_of_pr, toQ_of_pr] at h7
set_option maxRecDepth 100000 in
set_option maxHeartbeats 4000000 in
theorem law_mprices (A : Option Addr) (n c : Nat) (U : Option Addr) (m d : Nat) (B : List Int) (V : List (List Int)) (W : World) (hK : MktArg W A n c U m d B V) :
    Calls Try.prog 6 #[mktV A n c U m d] W fun e w' => e = .returned (.bool true) ∧ Below W.heap.size W w' := by
  have hC1 := Ch.start W A n c U m d
  obtain ⟨w1, hw1⟩ : ∃ w1, w1 = W.alloc (.cells #[.slice A n c, .slice U m d] 25) := ⟨_, rfl⟩
  rw [← hw1] at hC1
  have HK := Lib.hid (And.intro hK trivial)
  have HC1 := Lib.hid hC1
  obtain ⟨m1, m2, _, _⟩ := hC1.1.at2
  clear hK hC1
  unfold mktV
  go_enter Try.func6, Try.ntmps6
  go_wp2_with fail
  rw [← hw1]
  clear hw1
  refine ((HK.out.1.below HC1.out.2).of).mono ?_
  rintro e w2 ⟨A2, n2, c2, U2, q2, d2, b2, vs2, rfl, hO2⟩
  have HC2 := Lib.hid (HC1.out.next hO2.below)
  have HO2 := Lib.hid hO2
  clear hO2 m1 m2
  go_wp2_with fail
  refine (of_prices HO2.out).mono ?_
  intro ev w3 hpost
  unfold PricesPost at hpost
  obtain ⟨hb3, hpost⟩ := hpost
  have HC3 := Lib.hid (HC2.out.next hb3)
  clear hb3
  obtain ⟨m1, m2, _, _⟩ := HC3.out.1.at2
  cases hp : prF B V with
  | none =>
    rw [hp] at hpost
    subst hpost
    have hvf : validM B V = false := by
      cases hv : validM B V with
      | false => rfl
      | true =>
        obtain ⟨r, hr⟩ := found_any B V hv
        unfold prF at hp
        rw [if_pos hv, hr] at hp
        cases hp
    have HP := Lib.hid (And.intro hp hvf)
    clear hp hvf
    go_wp2_with fail
    refine ((HK.out.1.below HC3.out.2).of).mono ?_
    rintro e w4 ⟨A4, n4, c4, U4, q4, d4, b4, vs4, rfl, hO4⟩
    have HC4 := Lib.hid (HC3.out.next hO4.below)
    have HO4 := Lib.hid hO4
    clear hO4 m1 m2
    go_wp2_with fail
    refine (of_spend HO4.out).mono ?_
    intro ev w5 hpost
    unfold SpendPost at hpost
    rw [HP.out.1] at hpost
    obtain ⟨hb5, rfl⟩ := hpost
    have HC5 := Lib.hid (HC4.out.next hb5)
    have HV := Lib.hid (HK.out.1.below HC5.out.2).valid
    rw [HP.out.2] at HV
    obtain ⟨m1, m2, _, _⟩ := HC5.out.1.at2
    clear hb5
    go_wp2_with fail
    refine HV.out.mono ?_
    rintro e w6 ⟨rfl, hb6⟩
    have HC6 := Lib.hid (HC5.out.next hb6)
    clear hb6 m1 m2 HV
    go_wp2_with fail
    refine (l4awake_any _).mono ?_
    rintro e w10 ⟨rfl, hb10⟩
    have HC10 := Lib.hid (HC6.out.next hb10)
    clear hb10
    go_wp2_with fail
    go_ret
    exact ⟨rfl, HC10.out.2⟩
  | some r =>
    rw [hp] at hpost
    obtain ⟨PA, pc, rfl, hown3⟩ := hpost
    have hpr := prF_ok hp
    have hpl := hpr.2.lp
    have hg3 := (validM_iff.1 hpr.1).2.1
    have hn3 := (validM_iff.1 hpr.1).1
    obtain ⟨k, hk⟩ : ∃ k, k = goodsN V := ⟨_, rfl⟩
    rw [← hk] at hg3 hpl
    have hfr3 := Fracs.of_cells (At.of_own hown3)
    have HP := Lib.hid (And.intro hp (And.intro hpr (And.intro hpl (And.intro hk hn3))))
    have HF3 := Lib.hid hfr3
    rw [hpl]
    clear hp hpr hpl hk hown3 hfr3 hn3
    go_wp2_with fail
    refine ((HK.out.1.below HC3.out.2).of).mono ?_
    rintro e w4 ⟨A4, n4, c4, U4, q4, d4, b4, vs4, rfl, hO4⟩
    have HC4 := Lib.hid (HC3.out.next hO4.below)
    have HO4 := Lib.hid hO4
    have HF4 := Lib.hid (HF3.out.below hO4.below')
    clear hO4 m1 m2
    go_wp2_with fail
    refine (of_spend HO4.out).mono ?_
    intro ev w5 hpost
    unfold SpendPost at hpost
    rw [HP.out.1] at hpost
    obtain ⟨hb5, SA, sc, rfl, hm5⟩ := hpost
    have HC5 := Lib.hid (HC4.out.next hb5)
    have HF5 := Lib.hid (And.intro (HF4.out.below hb5) hm5)
    obtain ⟨sl, hsl⟩ : ∃ sl, sl = r.2.length := ⟨_, rfl⟩
    rw [← hsl]
    have HSL := Lib.hid (And.intro hsl (hsl.trans HP.out.2.1.2.ls))
    have HV := Lib.hid (HK.out.1.below HC5.out.2).valid
    rw [HP.out.2.1.1] at HV
    obtain ⟨m1, m2, _, _⟩ := HC5.out.1.at2
    clear hb5 hm5 hsl
    go_wp2_with fail
    refine HV.out.mono ?_
    rintro e w6 ⟨rfl, hb6⟩
    have HC6 := Lib.hid (HC5.out.next hb6)
    have HF6 := Lib.hid (And.intro (HF5.out.1.below hb6) (HF5.out.2.below hb6))
    clear hb6 m1 m2 HV
    obtain ⟨hmn, hmk⟩ := mkIn_of (HK.out.1.below HC6.out.2).mkt HP.out.2.1.1
    rw [← HP.out.2.2.2.1] at hmk
    subst hmn
    have HSV := Lib.hid (r4solve_any A m c U d k B V w6 hmk HP.out.2.1.1)
    obtain ⟨m1, m2, _, _⟩ := HC6.out.1.at2
    clear hmk
    go_wp2_with fail
    refine HSV.out.mono ?_
    rintro e w7 ⟨QA, QS, set, rfl, hset, _, hok, hF7, _, hb7⟩
    rw [sol_pri HP.out.1 hok] at hF7
    have HC7 := Lib.hid (HC6.out.next hb7)
    have HF7 := Lib.hid (And.intro (HF6.out.1.below hb7) (And.intro (HF6.out.2.below hb7) hF7))
    have HEQ := Lib.hid (equalF_any PA QA k k pc k r.1 r.1 w7 HP.out.2.2.1 HP.out.2.2.1 (by omega) HF7.out.1 HF7.out.2.2)
    clear hset hok hF7 hb7 m1 m2 HSV
    go_wp2_with fail
    refine HEQ.out.mono ?_
    rintro e w8 ⟨rfl, m8, rfl⟩
    rw [show ∀ l : List Rat, eqB l l = true from fun l => decide_eq_true rfl]
    have hb8 := below_drewN (Below.refl w7.heap.size w7) m8
    have HC8 := Lib.hid (HC7.out.next hb8)
    have HF8 := Lib.hid (And.intro (HF7.out.1.below hb8) (And.intro (HF7.out.2.1.below hb8) (HF7.out.2.2.below hb8)))
    obtain ⟨w8, hw8⟩ : ∃ w, w = w7.drewN m8 := ⟨_, rfl⟩
    rw [← hw8] at HC8 HF8 ⊢
    have hsp := sol_sps HP.out.1
    have hmB : B.length = m := HK.out.1.mkt.hB
    have hrl : ∀ x ∈ r.2, x.length = k := fun x hx => by rw [HP.out.2.1.2.lr x hx, ← HP.out.2.2.2.1]
    have hslm : sl = m := by rw [HSL.out.2]; exact hmB
    subst hslm
    have HPS := r4spendings_any A sl c U sl d SA sc B V (r.2.map (·.map pr)) w8 (HK.out.1.below HC8.out.2).mkt (by have := HP.out.2.2.2.2.1; omega) HF8.out.2.1.pmat (by rw [List.length_map, ← HSL.out.1]; have := HP.out.2.2.2.2.2.1; omega) (fun x hx => sps_i64 HP.out.1 hx) (fun x hx => by
      obtain ⟨y, hy, rfl⟩ := List.mem_map.1 hx
      rw [List.length_map, hrl y hy]; omega)
    rw [List.length_map, ← HSL.out.1, hsp.1] at HPS
    have HPS := Lib.hid HPS
    have HSP := Lib.hid (And.intro hsp (And.intro hmB hrl))
    obtain ⟨m1, m2, _, _⟩ := HC8.out.1.at2
    clear hb8 HEQ hw8 hsp hmB hrl
    go_wp2_with fail
    refine HPS.out.mono ?_
    rintro e w9 ⟨rfl, hb9⟩
    have HC9 := Lib.hid (HC8.out.next hb9)
    have HF9 := Lib.hid (And.intro (HF8.out.2.1.below hb9) (HF8.out.2.2.below hb9))
    obtain ⟨_, hmk⟩ := mkIn_of (HK.out.1.below HC9.out.2).mkt HP.out.2.1.1
    rw [← HP.out.2.2.2.1] at hmk
    have hba := r4balance_any A sl c U d k k sc QA SA B V r.1 r.2 w9 hmk HF9.out.2 HP.out.2.2.1 HSP.out.1.2.2.1 HF9.out.1 HSL.out.1.symm HSP.out.2.2 HSP.out.1.2.2.2
    rw [HSP.out.1.2.1] at hba
    have HBA := Lib.hid hba
    clear hb9 m1 m2 HPS hmk hba
    obtain ⟨m1, m2, _, _⟩ := HC9.out.1.at2
    go_wp2_with fail
    refine HBA.out.mono ?_
    rintro e w10 ⟨rfl, hb10⟩
    have HC10 := Lib.hid (HC9.out.next hb10)
    clear hb10 m1 m2 HBA
    go_wp2_with fail
    refine (l4awake_any _).mono ?_
    rintro e w11 ⟨rfl, hb11⟩
    have HC11 := Lib.hid (HC10.out.next hb11)
    clear hb11
    go_wp2_with fail
    go_ret
    exact ⟨rfl, HC11.out.2⟩

/- Contract: the reference's Worth. -/

theorem quo_wb1 {x p : Rat} (hx0 : 0 ≤ x.num) (hx : x.num ≤ 24000) (hxd : (x.den : Int) ≤ 1200) (hp : PrS p) : Wb (x / p) := by
  have := quot_wb (u := 1) (by omega) hx0 hx hxd hp
  have e : ((1 : Int) : Rat) * x / p = x / p := by
    rw [show ((1 : Int) : Rat) = 1 from rfl, Rat.one_mul]
  rwa [e] at this
theorem radd_wb (p q : Rat) (w : World) (hp : Wb p) (hq : Wb q) : Calls Try.prog 31 #[.agg #[.int .i64 p.num, .int .i64 (p.den : Int)], .agg #[.int .i64 q.num, .int .i64 (q.den : Int)]] w fun e w' => e = .returned (.agg #[.int .i64 (p + q).num, .int .i64 ((p + q).den : Int)]) ∧ Below w.heap.size w w' := by
  have p0 := den_pos p
  have q0 := den_pos q
  obtain ⟨p1, p2, p3⟩ := hp
  obtain ⟨q1, q2, q3⟩ := hq
  have a := mul_shrink (a := p.num) (b := 576000000) (c := (q.den : Int)) (m := 4000000000000000000) (by omega) (by omega) (by omega) (by omega)
  have b := mul_shrink (a := q.num) (b := 576000000) (c := (p.den : Int)) (m := 4000000000000000000) (by omega) (by omega) (by omega) (by omega)
  have c := mul_shrink (a := (p.den : Int)) (b := 57600000) (c := (q.den : Int)) (m := 4000000000000000000) (by omega) (by omega) (by omega) (by omega)
  exact radd_raw p q w a.1 a.2 b.1 b.2 c.2
set_option maxRecDepth 100000 in
set_option maxHeartbeats 4000000 in
theorem r4worth_any (A : Option Addr) (n c : Nat) (U : Option Addr) (d k cp cs : Nat) (Pa Sa : Option Addr) (B : List Int) (V : List (List Int)) (r : List Rat × List (List Rat)) (w : World) (h : MkIn w A n U k B V) (hv : validM B V = true) (hr : SolR B V n k r) (hP : Fracs w Pa r.1) (hS : FMat w Sa r.2) :
    Calls Try.prog 28 #[.agg #[.slice A n c, .slice U n d], .slice Pa k cp, .slice Sa n cs] w fun e w' => ∃ A' c', e = .returned (.slice A' n c') ∧ Fracs w' A' (worL V n k r) ∧ Below w.heap.size w w' := by
  obtain ⟨w1, hw1⟩ : ∃ w1, w1 = w.alloc (.cells #[.slice A n c, .slice U n d] 25) := ⟨_, rfl⟩
  have hb1 : Below w.heap.size w w1 := by rw [hw1]; exact (Below.refl _ _).alloc (Nat.le_refl _) _
  have hM1 : Blk w1 w.heap.size 25 #[.slice A n c, .slice U n d] := by rw [hw1]; exact Blk.new _ _ _ rfl
  have hn := h.hn
  have hk := h.hk
  have hg := h.hg
  have hBn := h.mkt.hB
  have HWB : Hid (∀ i g, i < n → g < k → (0 ≤ (spd r.2 i g).num ∧ (spd r.2 i g).num ≤ 24000 ∧ ((spd r.2 i g).den : Int) ≤ 1200) ∧ Wb (worQ V r.1 r.2 i g) ∧ Wb (worTo V r.1 r.2 i g) ∧ PrS (priQ r.1 g)) := Lib.hid fun i g hi hgk => by
    have hr2 := hr
    rw [← hBn, ← hg] at hr2
    rw [← hBn] at hi
    rw [← hg] at hgk
    have := wor_wb hv hr2 hi hgk
    exact ⟨this.1, this.2.1, this.2.2, pri_sm hr2 hgk⟩
  have H := Lib.hid (And.intro h (And.intro hr (And.intro (hP.below hb1) (And.intro (hS.below hb1) (And.intro hM1 hb1)))))
  have hwl := hM1.lt
  clear h hr hP hS hM1 hb1 hg hBn
  go_enter Try.func28, Try.ntmps28
  go_wp2_with fail
  rw [← hw1]
  clear hw1
  go_loopw [7, 15] (fun ov iv wx => ∃ (i : Nat) (A2 : Option Addr) (c2 : Nat), i ≤ n ∧ iv = .int .i64 i ∧ ov = .slice A2 i c2 ∧ wx.ownsRow w1.heap.size 37 2 (.slice A2 i c2) i (fcells ((worL V n k r).take i)) ∧ Below w1.heap.size w1 wx) (fun _ iv _ => n - (intOf iv).toNat)
  case atStart => exact ⟨0, none, 0, Nat.zero_le _, rfl, rfl, by simpa [fcells] using World.ownsRow_nil _ _ _ _, Below.refl _ _⟩
  case round =>
    obtain ⟨i, A2, c2, hi, rfl, rfl, hown, hbl⟩ := hrel
    obtain ⟨wo, rfl⟩ : ∃ wo : World, wo = wr := ⟨_, rfl⟩
    have HR := Lib.hid (And.intro hown hbl)
    have hos := hbl.size
    clear hown hbl
    by_cases hin : i < n
    · obtain ⟨x, hx⟩ : ∃ x, r.2[i]? = some x := ⟨_, List.getElem?_eq_getElem (by rw [H.out.2.1.ls]; exact hin)⟩
      obtain ⟨ad, A3, c3, hA, hc, hF⟩ := H.out.2.2.2.1 i x hx
      subst hA
      have hxl := H.out.2.1.lr x (List.mem_of_getElem? hx)
      have hsx : ∀ g, spd r.2 i g = x.getD g 0 := fun g => by unfold spd rowQ; rw [List.getD_eq_getElem?_getD (l := r.2), hx]; rfl
      have c1 := (HR.out.2.cell (lt_of_cell hc)).trans hc
      rw [hxl] at c1
      have HX := Lib.hid (And.intro hx (And.intro hxl (And.intro hF hsx)))
      have hnx : (worL V n k r).take (i + 1) = (worL V n k r).take i ++ [worTo V r.1 r.2 i k] := by
        unfold worL
        exact map_take_next (List.getElem?_range hin)
      have HNX := Lib.hid hnx
      have l1 : (i : Int) < (n : Int) := by omega
      clear hx hc hF hxl hsx hnx
      go_wp2_with fail
      clear c1
      go_loopw [23] (fun gv wx => ∃ g : Nat, g ≤ k ∧ gv = .int .i64 g ∧ Blk wx wo.heap.size 37 #[.int .i64 (worTo V r.1 r.2 i g).num, .int .i64 ((worTo V r.1 r.2 i g).den : Int)] ∧ Below wo.heap.size wo wx) (fun gv _ => k - (intOf gv).toNat)
      case atStart => exact ⟨0, Nat.zero_le _, rfl, Blk.new _ _ _ rfl, (Below.refl _ _).alloc (Nat.le_refl _) _⟩
      case round =>
        obtain ⟨g, hg, rfl, hBl, hbl⟩ := hrel
        obtain ⟨wl, rfl⟩ : ∃ wl : World, wl = wr := ⟨_, rfl⟩
        have hls := hBl.lt
        have HL := Lib.hid (And.intro hBl hbl)
        clear hBl hbl
        by_cases hgk : g < k
        · have h6l := HR.out.2.trans (HL.out.2.mono HR.out.2.size)
          obtain ⟨q, hq⟩ : ∃ q, x[g]? = some q := ⟨_, List.getElem?_eq_getElem (by rw [HX.out.2.1]; exact hgk)⟩
          obtain ⟨a3, hA3, _, hc3⟩ := (HX.out.2.2.1.below h6l).some_ (by rw [HX.out.2.1]; omega)
          subst hA3
          obtain ⟨v1, v2⟩ := hc3 g q hq
          have hsq : spd r.2 i g = q := by rw [HX.out.2.2.2, List.getD_eq_getElem?_getD, hq]; rfl
          obtain ⟨p, hp⟩ : ∃ p, r.1[g]? = some p := ⟨_, List.getElem?_eq_getElem (by rw [H.out.2.1.lp]; exact hgk)⟩
          have hpp : priQ r.1 g = p := by unfold priQ; rw [List.getD_eq_getElem?_getD, hp]; rfl
          obtain ⟨wb1, wb2, wb3, wb4⟩ := HWB.out i g hin hgk
          rw [hpp] at wb4
          rw [hsq] at wb1
          have hwq : ((useN V i g : Int) : Rat) * q / p = worQ V r.1 r.2 i g := by rw [← worQ_eq, hsq, hpp]
          have hub := useN_bd H.out.1.rows i g
          obtain ⟨w8, hw8⟩ : ∃ w8, w8 = wl.alloc (.cells #[.int .i64 q.num, .int .i64 (q.den : Int)] 37) := ⟨_, rfl⟩
          have hb8 : Below wl.heap.size wl w8 := by rw [hw8]; exact (Below.refl _ _).alloc (Nat.le_refl _) _
          have hX8 : Blk w8 wl.heap.size 37 #[.int .i64 q.num, .int .i64 (q.den : Int)] := by rw [hw8]; exact Blk.new _ _ _ rfl
          have h68 := h6l.trans (hb8.mono h6l.size)
          have h08 := H.out.2.2.2.2.2.trans (h68.mono H.out.2.2.2.2.2.size)
          obtain ⟨f1, f2, _, _⟩ := (HL.out.1.below hb8 hls).at2
          obtain ⟨f3, f4, _, _⟩ := hX8.at2
          obtain ⟨_, f7, _, _⟩ := (H.out.2.2.2.2.1.below h68 hwl).at2
          obtain ⟨aP, hAP, _, hcP⟩ := (H.out.2.2.1.below h68).some_ (by rw [H.out.2.1.lp]; omega)
          obtain ⟨f8, f9⟩ := hcP g p hp
          obtain ⟨aU, hAU, _, hcU⟩ := H.out.1.mkt.uses.some_ (by rw [H.out.1.mkt.hV]; omega)
          have hVb := rowV_some (V := V) (i := i) (by rw [H.out.1.mkt.hV]; exact hin)
          have hrl := rowOk_iff.1 (H.out.1.rows _ (List.mem_of_getElem? hVb))
          obtain ⟨R2, cr2, u1, _, _, hR⟩ := hcU i _ hVb
          rw [hrl.1] at u1
          obtain ⟨ar2, hRe2, _, hcR⟩ := hR.some_ (by rw [hrl.1]; omega)
          subst hRe2
          have u2 := hcR g (useN V i g) (by unfold useN; rw [List.getD_eq_getElem?_getD, List.getElem?_eq_getElem (by rw [hrl.1]; exact hgk)]; rfl)
          have f10 := (h08.cell (lt_of_cell u1)).trans u1
          have f11 := (h08.cell (lt_of_cell u2)).trans u2
          obtain ⟨u, hu⟩ : ∃ u, u = useN V i g := ⟨_, rfl⟩
          rw [← hu] at hub f11 hwq
          obtain ⟨t, ht⟩ : ∃ t, t = worQ V r.1 r.2 i g := ⟨_, rfl⟩
          rw [← ht] at hwq wb2
          obtain ⟨s, hs⟩ : ∃ s, s = worTo V r.1 r.2 i g := ⟨_, rfl⟩
          rw [← hs] at wb3
          simp only [← hs] at f1 f2
          have hst : s + t = worTo V r.1 r.2 i (g + 1) := by rw [hs, ht]; rfl
          have HWH : Hid (∀ s' : Desc w8, Calls Try.prog 41 #[.int .i64 u, .int .i64 1] s'.val fun e w'' => e = .returned (.agg #[.int .i64 u, .int .i64 1]) ∧ ∃ s'' : Desc w8, w'' = s''.val) := Lib.hid fun s' => Calls.desc_of (rof_use u s'.val hub)
          obtain ⟨y, hy⟩ : ∃ y, y = q / p := ⟨_, rfl⟩
          have hqd := den_pos q
          have hpd := den_pos p
          have hyb : Wb y := by rw [hy]; exact quo_wb1 wb1.1 wb1.2.1 wb1.2.2 wb4
          have HQU : Hid (∀ s' : Desc w8, Calls Try.prog 51 #[.agg #[.int .i64 q.num, .int .i64 (q.den : Int)], .agg #[.int .i64 p.num, .int .i64 (p.den : Int)]] s'.val fun e w'' => e = .returned (.agg #[.int .i64 y.num, .int .i64 (y.den : Int)]) ∧ ∃ s'' : Desc w8, w'' = s''.val) := Lib.hid fun s' => Calls.desc_of (by
            obtain ⟨p1, p2, p3⟩ := wb4
            have m1 : 0 ≤ q.num * (p.den : Int) ∧ q.num * (p.den : Int) ≤ 24000 * 1200 := ⟨Int.mul_nonneg wb1.1 (by omega), Int.mul_le_mul wb1.2.1 p3 (by omega) (by omega)⟩
            have m2 : (q.den : Int) * p.num ≤ 1200 * 48000 := Int.mul_le_mul wb1.2.2 p2 (by omega) (by omega)
            rw [hy]
            exact rquo_raw q p s'.val (by omega) (by omega) (by omega) (by omega))
          have hyt : (u : Rat) * y = t := by
            rw [← hwq, hy, Rat.div_def, Rat.div_def, Rat.mul_assoc]
          have HMU : Hid (∀ s' : Desc w8, Calls Try.prog 19 #[.agg #[.int .i64 u, .int .i64 1], .agg #[.int .i64 y.num, .int .i64 (y.den : Int)]] s'.val fun e w'' => e = .returned (.agg #[.int .i64 t.num, .int .i64 (t.den : Int)]) ∧ ∃ s'' : Desc w8, w'' = s''.val) := Lib.hid fun s' => Calls.desc_of (by
            obtain ⟨y1, y2, y3⟩ := hyb
            have m1 : 0 ≤ u * y.num ∧ u * y.num ≤ 20 * 576000000 := ⟨Int.mul_nonneg hub.1 y1, Int.mul_le_mul hub.2 y2 y1 (by omega)⟩
            have := rmul_raw (u : Rat) y s'.val (by rw [Rat.num_intCast]; omega) (by rw [Rat.num_intCast]; omega) (by rw [Rat.den_intCast]; show (1 : Int) * _ ≤ _; omega)
            rw [hyt, fr_int] at this
            exact this)
          obtain ⟨z, hz⟩ : ∃ z, z = worTo V r.1 r.2 i (g + 1) := ⟨_, rfl⟩
          have HAD : Hid (∀ s' : Desc w8, Calls Try.prog 31 #[.agg #[.int .i64 s.num, .int .i64 (s.den : Int)], .agg #[.int .i64 t.num, .int .i64 (t.den : Int)]] s'.val fun e w'' => e = .returned (.agg #[.int .i64 z.num, .int .i64 (z.den : Int)]) ∧ ∃ s'' : Desc w8, w'' = s''.val) := Lib.hid fun s' => Calls.desc_of (by
            have := radd_wb s t s'.val wb3 wb2
            rw [hst, ← hz] at this
            exact this)
          have HZ := Lib.hid hz
          have d1 : ∀ s : Desc w8, s.val.cell? ⟨wo.heap.size, 0, none⟩ = some (.int .i64 _) := fun s => s.cell f1
          have d2 : ∀ s : Desc w8, s.val.cell? ⟨wo.heap.size, 1, none⟩ = some (.int .i64 _) := fun s => s.cell f2
          have d3 : ∀ s : Desc w8, s.val.cell? ⟨wl.heap.size, 0, none⟩ = some (.int .i64 q.num) := fun s => s.cell f3
          have d4 : ∀ s : Desc w8, s.val.cell? ⟨wl.heap.size, 1, none⟩ = some (.int .i64 (q.den : Int)) := fun s => s.cell f4
          have d7 : ∀ s : Desc w8, s.val.cell? ⟨w.heap.size, 1, none⟩ = some (.slice U n d) := fun s => s.cell f7
          have d8 : ∀ s : Desc w8, s.val.cell? (aP.add (g * 2)) = some (.int .i64 p.num) := fun s => s.cell f8
          have d9 : ∀ s : Desc w8, s.val.cell? ⟨(aP.add (g * 2)).block, (aP.add (g * 2)).off + 1, none⟩ = some (.int .i64 (p.den : Int)) := fun s => s.cell f9
          have d10 : ∀ s : Desc w8, s.val.cell? (aU.add i) = some (.slice (some ar2) k cr2) := fun s => s.cell f10
          have d11 : ∀ s : Desc w8, s.val.cell? (ar2.add g) = some (.int .i64 u) := fun s => s.cell f11
          have H8 := Lib.hid (And.intro (HL.out.1.below hb8 hls) (HL.out.2.trans (hb8.mono HL.out.2.size)))
          subst hAU
          subst hAP
          clear f1 f2 f3 f4 f7 f8 f9 f10 f11 hcP hcR hcU hR u1 u2 hVb hrl hu ht hs hst hyb hy hyt hz hub hwq wb1 wb2 wb3 wb4 hpp hsq hq hp hc3 hX8 hb8 h6l h68 h08 hqd hpd
          go_wp2_with fail
          rw [← hw8]
          clear hw8
          refine wp_region_desc_tail 18 (by kernel_rfl) (by kernel_rfl) ?_
          simp only [List.take_succ_cons, List.take_zero, List.drop_succ_cons, List.drop_zero]
          repeat (go_big_quiet_step (first | (go_at_call 41; exact HWH.out _) | (go_at_call 51; exact HQU.out _) | (go_at_call 19; exact HMU.out _) | (go_at_call 31; exact HAD.out _)))
          refine wpQuiet_nil ?_
          rintro _ ⟨sd, rfl⟩
          have hb9 := sd.below
          generalize sd.val = w9 at hb9 ⊢
          clear d1 d2 d3 d4 d7 d8 d9 d10 d11
          have hB9 := H8.out.1.below hb9 H8.out.1.lt
          obtain ⟨r1, r2, r3, r4⟩ := hB9.at2
          have H9 := Lib.hid (And.intro hB9 (H8.out.2.trans (hb9.mono H8.out.2.size)))
          clear hB9 hb9
          go_wp2_with fail
          go_roundw
          case rel =>
            have h9 := (Blk.set_ (Blk.set_ H9.out.1 0 (.int .i64 z.num)) 1 (.int .i64 (z.den : Int)))
            refine ⟨g + 1, by omega, by go_num, ?_, (H9.out.2.setCell (by simp) _).setCell (by simp) _⟩
            rw [← HZ.out]
            exact h9
          case measure => simp [intOf]; omega
        · obtain rfl : k = g := by omega
          obtain ⟨r1, r2, _, _⟩ := HL.out.1.at2
          obtain ⟨z, hz⟩ : ∃ z, z = worTo V r.1 r.2 i k := ⟨_, rfl⟩
          rw [← hz] at HNX
          simp only [← hz] at r1 r2
          have hown := own_below HR.out.1 (HL.out.2)
          have H8 := Lib.hid (And.intro hown (HR.out.2.trans (HL.out.2.mono HR.out.2.size)))
          have hsz : w1.heap.size ≤ wl.heap.size := H8.out.2.size
          clear hz hown
          go_wp2_with (at_builtin; refine app1g sty_frac rfl _ _ rfl w1.heap.size A2 i c2 _ #[.int .i64 z.num, .int .i64 (z.den : Int)] rfl (by simp [Value.oneCell']) rfl H8.out.1 _ rfl (by simp) (by omega) hsz ?_)
          intro A5 k5 w9 hown9 hg9 hbl9 hk91 hk92
          have hnx : fcells ((worL V n k r).take (i + 1)) = fcells ((worL V n k r).take i) ++ [.int .i64 z.num, .int .i64 (z.den : Int)] := by rw [HNX.out, fcells_snoc]
          have H9 := Lib.hid (And.intro hown9 (And.intro hnx (H8.out.2.trans hbl9)))
          clear hown9 hg9 hbl9 hnx
          go_wp2_with fail
          go_roundw
          case rel => exact ⟨i + 1, A5, k5, by omega, by go_num, rfl, by rw [H9.out.2.1]; exact H9.out.1, H9.out.2.2⟩
          case measure => simp [intOf]; omega
    · obtain rfl : n = i := by omega
      have hown := HR.out.1
      rw [List.take_of_length_le (by simp [worL])] at hown
      have HE := Lib.hid (And.intro (Fracs.of_cells (At.of_own hown)) (H.out.2.2.2.2.2.trans (HR.out.2.mono H.out.2.2.2.2.2.size)))
      clear hown
      go_wp2_with fail
      go_ret
      exact ⟨_, _, rfl, HE.out.1, HE.out.2⟩

/- Multiplied uses and budgets: laws of MarketUnits. -/

section
variable {n k : Nat} {b : Nat → Rat} {u : Nat → Nat → Rat} {p : Nat → Rat} {s : Nat → Nat → Rat}
theorem Equi.useMul (h : Equi n k b u p s) {c : Nat → Rat} (hc : ∀ i, i < n → 0 < c i) : Equi n k b (fun i g => c i * u i g) p s := by
  refine ⟨h.pos, h.nn, h.row, h.col, fun i g hi hg hs x hx => ?_⟩
  have h1 := Rat.mul_le_mul_of_nonneg_left (c := c i) (h.want i g hi hg hs x hx) (Rat.le_of_lt (hc i hi))
  have e1 : c i * u i x * p g = c i * (u i x * p g) := by grind
  have e2 : c i * u i g * p x = c i * (u i g * p x) := by grind
  rw [e1, e2]
  exact h1
theorem Equi.congrU {u' : Nat → Nat → Rat} (h : Equi n k b u p s) (hu : ∀ i g, i < n → g < k → u i g = u' i g) : Equi n k b u' p s := by
  refine ⟨h.pos, h.nn, h.row, h.col, fun i g hi hg hs x hx => ?_⟩
  rw [← hu i g hi hg, ← hu i x hi hx]
  exact h.want i g hi hg hs x hx
theorem Equi.budMul (h : Equi n k b u p s) {c : Rat} (hc : 0 < c) : Equi n k (fun i => c * b i) u (fun g => c * p g) (fun i g => c * s i g) where
  pos := fun g hg => Rat.mul_pos hc (h.pos g hg)
  nn := fun i g hi hg => Rat.mul_nonneg (Rat.le_of_lt hc) (h.nn i g hi hg)
  row := fun i hi => by rw [sumQ_mul, h.row i hi]
  col := fun g hg => by rw [sumQ_mul, h.col g hg]
  want := fun i g hi hg hs x hx => by
    have h1 := h.want i g hi hg (fun h0 => hs (by rw [h0, Rat.mul_zero])) x hx
    have h2 := Rat.mul_le_mul_of_nonneg_left (c := c) h1 (Rat.le_of_lt hc)
    have e1 : u i x * (c * p g) = c * (u i x * p g) := by grind
    have e2 : u i g * (c * p x) = c * (u i g * p x) := by grind
    rw [e1, e2]
    exact h2
end
theorem rowV_setM {V : List (List Int)} {p i : Nat} {r : List Int} (hp : p < V.length) : rowV (V.set p r) i = if p = i then r else rowV V i := by
  unfold rowV
  rw [List.getD_eq_getElem?_getD, List.getElem?_set]
  by_cases e : p = i
  · subst e; rw [if_pos rfl, if_pos hp, if_pos rfl]; rfl
  · rw [if_neg e, if_neg e, List.getD_eq_getElem?_getD]
theorem prices_eq {r r' : List Rat} {k : Nat} (hl : r.length = k) (hl' : r'.length = k) (h : ∀ g, g < k → priQ r g = priQ r' g) : r = r' := by
  apply List.ext_getElem?
  intro g
  by_cases hg : g < k
  · have h4 := h g hg
    unfold priQ at h4
    rw [List.getD_eq_getElem?_getD, List.getD_eq_getElem?_getD] at h4
    rw [List.getElem?_eq_getElem (by omega), List.getElem?_eq_getElem (by omega)] at h4 ⊢
    simp only [Option.getD_some] at h4
    rw [h4]
  · rw [List.getElem?_eq_none (by omega), List.getElem?_eq_none (by omega)]
section
variable {B : List Int} {V : List (List Int)} {r r' : List Rat × List (List Rat)}
theorem goodsN_set {p : Nat} {c : Int} (hp : p < V.length) : goodsN (V.set p ((rowV V p).map (c * ·))) = goodsN V := by
  show (rowV (V.set p ((rowV V p).map (c * ·))) 0).length = (rowV V 0).length
  rw [rowV_setM hp]
  by_cases e : p = 0
  · subst e; rw [if_pos rfl, List.length_map]
  · rw [if_neg e]
theorem useN_set {p : Nat} {c : Int} (hp : p < V.length) (i g : Nat) : useN (V.set p ((rowV V p).map (c * ·))) i g = (if p = i then c else 1) * useN V i g := by
  unfold useN
  rw [rowV_setM hp]
  by_cases e : p = i
  · subst e
    rw [if_pos rfl, if_pos rfl, List.getD_eq_getElem?_getD, List.getD_eq_getElem?_getD, List.getElem?_map]
    cases (rowV V p)[g]? <;> simp
  · rw [if_neg e, if_neg e, Int.one_mul]
/-- A buyer's uses multiplied: the prices stay. -/
theorem units_use (h : prF B V = some r) {p : Nat} (hp : p < B.length) {c : Int} (hc : 1 ≤ c) (h' : prF B (V.set p ((rowV V p).map (c * ·))) = some r') : r'.1 = r.1 := by
  obtain ⟨hv, hs⟩ := prF_ok h
  obtain ⟨hv', hs'⟩ := prF_ok h'
  have hpV : p < V.length := by have := (validM_iff.1 hv).1.2.2.2; omega
  obtain ⟨hm, _, _⟩ := mkOk_of hv'
  have hE' := hs'.equi hv'
  have hl' := hs'.lp
  rw [goodsN_set hpV] at hE' hm hl'
  have hE := ((hs.equi hv).useMul (c := fun i => (((if p = i then c else 1) : Int) : Rat)) (fun i _ => by
    have : (0 : Int) < if p = i then c else 1 := by split <;> omega
    exact_mod_cast this)).congrU (u' := useQ (V.set p ((rowV V p).map (c * ·)))) (fun i g _ _ => by
      unfold useQ
      rw [useN_set hpV, Rat.intCast_mul])
  exact prices_eq hl' hs.lp fun g hg => hE'.unique hE hm.un hm.us g hg
/-- All budgets multiplied: so are the prices. -/
theorem units_bud (h : prF B V = some r) {c : Int} (hc : 1 ≤ c) (h' : prF (B.map (· * c)) V = some r') : r'.1.length = r.1.length ∧ ∀ (g : Nat) (q q' : Rat), r.1[g]? = some q → r'.1[g]? = some q' → q' = q * (c : Rat) := by
  obtain ⟨hv, hs⟩ := prF_ok h
  obtain ⟨hv', hs'⟩ := prF_ok h'
  obtain ⟨hm, _, _⟩ := mkOk_of hv'
  have hE' := hs'.equi hv'
  rw [List.length_map] at hE' hm
  have hE := ((hs.equi hv).budMul (c := (c : Rat)) (by exact_mod_cast (show (0 : Int) < c by omega))).congr (b' := budQ (B.map (· * c))) (fun i hi => by
    unfold budQ
    rw [List.getD_eq_getElem?_getD, List.getD_eq_getElem?_getD, List.getElem?_map, List.getElem?_eq_getElem hi]
    simp only [Option.map_some, Option.getD_some]
    rw [Rat.intCast_mul, Rat.mul_comm])
  refine ⟨by rw [hs'.lp, hs.lp], fun g q q' hq hq' => ?_⟩
  have hg : g < goodsN V := by rw [← hs.lp]; exact (List.getElem?_eq_some_iff.1 hq).1
  have h1 := hE'.unique hE hm.un hm.us g hg
  unfold priQ at h1
  rw [List.getD_eq_getElem?_getD, List.getD_eq_getElem?_getD, hq, hq'] at h1
  simp only [Option.getD_some] at h1
  rw [h1, Rat.mul_comm]
end

/- A buyer split into two: laws of MarketSplit. -/

section
variable {n k : Nat} {b b' : Nat → Rat} {u u' : Nat → Nat → Rat} {p : Nat → Rat} {s : Nat → Nat → Rat}
/-- The last buyer joined to the first. -/
def joinS (n : Nat) (s : Nat → Nat → Rat) (i g : Nat) : Rat := if i = 0 then s 0 g + s n g else s i g
theorem joinS_sum (hn : 1 ≤ n) (g : Nat) : sumQ (fun i => joinS n s i g) n = sumQ (fun i => s i g) (n + 1) := by
  have h : ∀ m, 1 ≤ m → sumQ (fun i => joinS n s i g) m = sumQ (fun i => s i g) m + s n g := by
    intro m hm
    induction m with
    | zero => omega
    | succ m ih =>
      rcases Nat.eq_zero_or_pos m with h0 | h0
      · subst h0
        show (0 : Rat) + joinS n s 0 g = 0 + s 0 g + s n g
        unfold joinS
        rw [if_pos rfl]
        grind
      · simp only [sumQ]
        rw [ih h0]
        have e : joinS n s m g = s m g := by unfold joinS; rw [if_neg (by omega)]
        rw [e]
        grind
  rw [h n hn]
  rfl
theorem Equi.join (h : Equi (n + 1) k b' u' p s) (hn : 1 ≤ n) (hu : ∀ i g, i < n → g < k → u' i g = u i g) (hu0 : ∀ g, g < k → u' n g = u 0 g) (hb0 : b' 0 + b' n = b 0) (hb : ∀ i, 0 < i → i < n → b' i = b i) : Equi n k b u p (joinS n s) where
  pos := h.pos
  nn := fun i g hi hg => by
    unfold joinS
    split
    · exact Rat.add_nonneg (h.nn 0 g (by omega) hg) (h.nn n g (by omega) hg)
    · exact h.nn i g (by omega) hg
  row := fun i hi => by
    by_cases h0 : i = 0
    · subst h0
      have e : sumQ (joinS n s 0) k = sumQ (s 0) k + sumQ (s n) k := by
        have e1 : ∀ g, joinS n s 0 g = s 0 g + s n g := fun g => by unfold joinS; rw [if_pos rfl]
        clear hu hu0 h
        induction k with
        | zero => show (0 : Rat) = 0 + 0; grind
        | succ k ih =>
          simp only [sumQ]
          rw [ih, e1]
          grind
      rw [e, h.row 0 (by omega), h.row n (by omega), hb0]
    · have e : sumQ (joinS n s i) k = sumQ (s i) k := sumQ_congr fun g _ => by unfold joinS; rw [if_neg h0]
      rw [e, h.row i (by omega), hb i (by omega) hi]
  col := fun g hg => by rw [joinS_sum hn]; exact h.col g hg
  want := fun i g hi hg hs x hx => by
    unfold joinS at hs
    by_cases h0 : i = 0
    · subst h0
      rw [if_pos rfl] at hs
      by_cases h1 : s 0 g = 0
      · have h2 : s n g ≠ 0 := fun h3 => hs (by rw [h1, h3]; grind)
        have h4 := h.want n g (by omega) hg h2 x hx
        rwa [hu0 x hx, hu0 g hg] at h4
      · have h4 := h.want 0 g (by omega) hg h1 x hx
        rwa [hu 0 x hi hx, hu 0 g hi hg] at h4
    · rw [if_neg h0] at hs
      have h4 := h.want i g (by omega) hg hs x hx
      rwa [hu i x hi hx, hu i g hi hg] at h4
end
/-- The market with its first buyer split. -/
def splB (B : List Int) (q : Int) : List Int := B.set 0 (B.getD 0 0 - q) ++ [q]
def splV (V : List (List Int)) : List (List Int) := V ++ [rowV V 0]
section
variable {B : List Int} {V : List (List Int)} {r r' : List Rat × List (List Rat)} {q : Int}
theorem splV_row (_ : 1 ≤ V.length) (i : Nat) (hi : i ≤ V.length) : rowV (splV V) i = if i = V.length then rowV V 0 else rowV V i := by
  show (V ++ [rowV V 0]).getD i [] = _
  rw [List.getD_eq_getElem?_getD]
  by_cases e : i = V.length
  · subst e
    rw [if_pos rfl, List.getElem?_append_right (Nat.le_refl _), Nat.sub_self]; rfl
  · rw [if_neg e, List.getElem?_append_left (by omega)]
    show _ = V.getD i []
    rw [List.getD_eq_getElem?_getD]
theorem splV_goods (hV : 1 ≤ V.length) : goodsN (splV V) = goodsN V := by
  show (rowV (splV V) 0).length = (rowV V 0).length
  rw [splV_row hV 0 (by omega), if_neg (by omega)]
theorem splB_length : (splB B q).length = B.length + 1 := by simp [splB]
theorem splB_get {i : Nat} (hB : 1 ≤ B.length) (hi : i ≤ B.length) : (splB B q).getD i 0 = if i = B.length then q else if i = 0 then B.getD 0 0 - q else B.getD i 0 := by
  unfold splB
  rw [List.getD_eq_getElem?_getD]
  by_cases e : i = B.length
  · subst e
    rw [if_pos rfl, List.getElem?_append_right (by simp), List.length_set, Nat.sub_self]; rfl
  · rw [if_neg e, List.getElem?_append_left (by simp; omega), List.getElem?_set]
    by_cases h0 : i = 0
    · subst h0
      rw [if_pos rfl, if_pos (by omega), if_pos rfl]; rfl
    · rw [if_neg (by omega), if_neg h0, List.getD_eq_getElem?_getD]
theorem spl_valid (hv : validM B V = true) (hn : B.length ≤ 2) (hq : 1 ≤ q ∧ q ≤ B.getD 0 0 - 1) : validM (splB B q) (splV V) = true := by
  obtain ⟨⟨a1, a2, a3, a4⟩, b1, b2, b3⟩ := validM_iff.1 hv
  have hB0 := a3 (B.getD 0 0) (by
    rw [List.getD_eq_getElem?_getD, List.getElem?_eq_getElem (by omega)]
    exact List.getElem_mem _)
  have hg := splV_goods (V := V) (by omega)
  refine validM_iff.2 ⟨⟨by rw [splB_length]; omega, by rw [splB_length]; omega, ?_, by rw [splB_length]; simp [splV, a4]⟩, by rw [hg]; exact b1, ?_, ?_⟩
  · intro x hx
    unfold splB at hx
    rcases List.mem_append.1 hx with h | h
    · rcases List.mem_or_eq_of_mem_set h with h2 | h2
      · exact a3 x h2
      · omega
    · simp at h
      omega
  · intro x hx
    rw [hg]
    unfold splV at hx
    rcases List.mem_append.1 hx with h | h
    · exact b2 x h
    · simp at h
      subst h
      exact b2 _ (List.mem_of_getElem? (rowV_some (by omega)))
  · intro g hgk
    rw [hg] at hgk
    have h1 := b3 g hgk
    unfold wanted at h1 ⊢
    unfold splV
    rw [List.any_append, h1]
    rfl
theorem spl_prices (h : prF B V = some r) (_ : 1 ≤ q ∧ q ≤ B.getD 0 0 - 1) (h' : prF (splB B q) (splV V) = some r') : r'.1 = r.1 := by
  obtain ⟨hv, hs⟩ := prF_ok h
  obtain ⟨hv', hs'⟩ := prF_ok h'
  obtain ⟨hm, _, _⟩ := mkOk_of hv
  obtain ⟨⟨a1, a2, a3, a4⟩, b1, b2, b3⟩ := validM_iff.1 hv
  have hE' := hs'.equi hv'
  have hl' := hs'.lp
  rw [splV_goods (by omega)] at hE' hl'
  rw [splB_length] at hE'
  have hJ := hE'.join (b := budQ B) (u := useQ V) a1
    (fun i g hi _ => by unfold useQ useN; rw [splV_row (by omega) i (by omega), if_neg (by omega)])
    (fun g _ => by unfold useQ useN; rw [splV_row (by omega) B.length (by omega), if_pos a4.symm])
    (by
      unfold budQ
      rw [splB_get a1 (by omega), splB_get a1 (Nat.le_refl _), if_neg (by omega), if_pos rfl, if_pos rfl, ← Rat.intCast_add]
      congr 1
      omega)
    (fun i h0 hi => by unfold budQ; rw [splB_get a1 (by omega), if_neg (by omega), if_neg (by omega)])
  exact prices_eq hl' hs.lp fun g hg => hJ.unique (hs.equi hv) hm.un hm.us g hg
theorem wor_ratio {W W' b b' : Rat} {uu pp : Nat → Rat} {k g0 g1 : Nat} (hp : ∀ g, g < k → 0 < pp g) (h0 : g0 < k) (h1 : g1 < k) (e0 : W * pp g0 = uu g0 * b) (e1 : W' * pp g1 = uu g1 * b')
    (m0 : ∀ g, g < k → uu g * pp g0 ≤ uu g0 * pp g) (m1 : ∀ g, g < k → uu g * pp g1 ≤ uu g1 * pp g) : W * b' = W' * b := by
  have hx : uu g1 * pp g0 = uu g0 * pp g1 := Rat.le_antisymm (m0 g1 h1) (m1 g0 h0)
  have p0 := hp g0 h0
  have p1 := hp g1 h1
  have hne : pp g0 * pp g1 ≠ 0 := by
    have := Rat.mul_pos p0 p1
    grind
  have h2 : W * b' * (pp g0 * pp g1) = W' * b * (pp g0 * pp g1) := by
    have a1 : W * b' * (pp g0 * pp g1) = (W * pp g0) * (b' * pp g1) := by grind
    have a2 : W' * b * (pp g0 * pp g1) = (W' * pp g1) * (b * pp g0) := by grind
    rw [a1, a2, e0, e1]
    have a3 : uu g0 * b * (b' * pp g1) = b * b' * (uu g0 * pp g1) := by grind
    have a4 : uu g1 * b' * (b * pp g0) = b * b' * (uu g1 * pp g0) := by grind
    rw [a3, a4, hx]
  generalize pp g0 * pp g1 = z at *
  grind
/-- What others get is worth as much as before. -/
theorem spl_worth (h : prF B V = some r) (hq : 1 ≤ q ∧ q ≤ B.getD 0 0 - 1) (h' : prF (splB B q) (splV V) = some r') {i j : Nat} (hi : i < B.length) (hj : j ≤ B.length) (hji : j = i ∨ (j = B.length ∧ i = 0)) :
    worTo V r.1 r.2 i (goodsN V) * budQ (splB B q) j = worTo (splV V) r'.1 r'.2 j (goodsN V) * budQ B i := by
  obtain ⟨hv, hs⟩ := prF_ok h
  obtain ⟨hv', hs'⟩ := prF_ok h'
  obtain ⟨⟨a1, a2, a3, a4⟩, _, _⟩ := validM_iff.1 hv
  have hE := hs.equi hv
  have hg := splV_goods (V := V) (by omega)
  obtain ⟨g0, hg0, _, e0, m0⟩ := wor_form hv hs hi
  obtain ⟨g1, hg1, _, e1, m1⟩ := wor_form hv' hs' (i := j) (by rw [splB_length]; omega)
  have hpr := spl_prices h hq h'
  rw [hg] at e1 m1 hg1
  rw [hpr] at e1 m1 ⊢
  have hu : ∀ g, useQ (splV V) j g = useQ V i g := fun g => by
    unfold useQ useN
    rw [splV_row (by omega) j (by omega)]
    rcases hji with rfl | ⟨rfl, rfl⟩
    · rw [if_neg (by omega)]
    · rw [if_pos a4.symm]
  rw [hu] at e1
  exact wor_ratio (uu := useQ V i) (pp := priQ r.1) (fun g hg => hE.pos g hg) hg0 hg1 e0 e1 m0 fun g hg => by
    have := m1 g hg
    rwa [hu, hu] at this
theorem cancel_r {x y z : Rat} (hz : 0 < z) (h : x * z = y * z) : x = y := by
  have hne : z ≠ 0 := by grind
  grind
theorem spl_other (h : prF B V = some r) (hq : 1 ≤ q ∧ q ≤ B.getD 0 0 - 1) (h' : prF (splB B q) (splV V) = some r') {i : Nat} (h0 : 0 < i) (hi : i < B.length) : worTo (splV V) r'.1 r'.2 i (goodsN V) = worTo V r.1 r.2 i (goodsN V) := by
  have h1 := spl_worth h hq h' hi (Nat.le_of_lt hi) (.inl rfl)
  obtain ⟨hv, _⟩ := prF_ok h
  have hb := (mkOk_of hv).1.bp i hi
  have e : budQ (splB B q) i = budQ B i := by
    unfold budQ
    rw [splB_get (by omega) (by omega), if_neg (by omega), if_neg (by omega)]
  rw [e] at h1
  exact (cancel_r hb h1).symm
theorem spl_sum (h : prF B V = some r) (hq : 1 ≤ q ∧ q ≤ B.getD 0 0 - 1) (h' : prF (splB B q) (splV V) = some r') : worTo (splV V) r'.1 r'.2 0 (goodsN V) + worTo (splV V) r'.1 r'.2 B.length (goodsN V) = worTo V r.1 r.2 0 (goodsN V) := by
  obtain ⟨hv, _⟩ := prF_ok h
  have hB := (validM_iff.1 hv).1.1
  have h1 := spl_worth h hq h' (i := 0) (j := 0) (by omega) (by omega) (.inl rfl)
  have h2 := spl_worth h hq h' (i := 0) (j := B.length) (by omega) (Nat.le_refl _) (.inr ⟨rfl, rfl⟩)
  have hb := (mkOk_of hv).1.bp 0 (by omega)
  have e : budQ (splB B q) 0 + budQ (splB B q) B.length = budQ B 0 := by
    unfold budQ
    rw [splB_get (by omega) (by omega), splB_get (by omega) (Nat.le_refl _), if_neg (by omega), if_pos rfl, if_pos rfl, ← Rat.intCast_add]
    congr 1
    omega
  generalize worTo (splV V) r'.1 r'.2 0 (goodsN V) = y0 at *
  generalize worTo (splV V) r'.1 r'.2 B.length (goodsN V) = yn at *
  generalize worTo V r.1 r.2 0 (goodsN V) = w0 at *
  refine cancel_r hb ?_
  rw [Rat.add_mul, ← h1, ← h2, ← Rat.mul_add, e]
end

/- MarketWorths: the walk. -/

/-- The reference's solution is one. -/
theorem sol_ref {B : List Int} {V : List (List Int)} {r : List Rat × List (List Rat)} (hP : prF B V = some r) {n k set : Nat} (hg : goodsN V = k) (hs : set < 512) (hn3 : 1 ≤ n ∧ n ≤ 3) (hk3 : 1 ≤ k ∧ k ≤ 3) (hX : set < 2 ^ (n * k)) (h : solOk B V n k set = true) :
    SolR B V n k (r.1, spM n k (spF n k B r.1 set)) := by
  have he := sol_pri hP h
  obtain ⟨hv, hsol⟩ := prF_ok hP
  obtain ⟨⟨a1, a2, a3, a4⟩, b1, b2, b3⟩ := validM_iff.1 hv
  have hub := (mkOk_of hv).2.2
  have h' := h
  unfold solOk at h'
  simp only [Bool.and_eq_true] at h'
  obtain ⟨hf, _, _, _, hb⟩ := h'
  obtain ⟨_, T, t1, t2, hsz⟩ := priced_sz (B := B) (V := V) (set := set) hn3 hk3 hX a3 (forest_use hub hf)
  rw [he] at hsz hb
  have hSI := (spF_sz hs hn3 hk3 ⟨t1, t2⟩ a3 hsz).2
  exact {
    bal := hb
    lp := hsol.lp.trans hg
    ls := by simp [spM]
    lr := fun x hx => by
      obtain ⟨i, _, rfl⟩ := List.mem_map.1 hx
      simp
    ps := hsol.ps
    ss := fun x hx q hq => by
      obtain ⟨i, _, rfl⟩ := List.mem_map.1 hx
      obtain ⟨g, _, rfl⟩ := List.mem_map.1 hq
      have h1 := (hSI (n + k)).sp i g
      have hd := den_pos ((spF n k B r.1 set).sp i g)
      have h2 : ((spF n k B r.1 set).sp i g).num.natAbs ≤ 288000 ∧ (((spF n k B r.1 set).sp i g).den : Int) ≤ 1200 := h1
      exact ⟨by omega, by omega, h2.2⟩ }
theorem wor_same {B : List Int} {V : List (List Int)} {r r' : List Rat × List (List Rat)} (hv : validM B V = true) (h : SolR B V B.length (goodsN V) r) (h' : SolR B V B.length (goodsN V) r') (he : r'.1 = r.1) : worL V B.length (goodsN V) r' = worL V B.length (goodsN V) r := by
  unfold worL
  refine List.map_congr_left fun i hi => ?_
  have hi := List.mem_range.1 hi
  have hE := h.equi hv
  obtain ⟨g0, hg0, _, e0, m0⟩ := wor_form hv h hi
  obtain ⟨g1, hg1, _, e1, m1⟩ := wor_form hv h' hi
  rw [he] at e1 m1
  have := wor_ratio (uu := useQ V i) (pp := priQ r.1) (fun g hg => hE.pos g hg) hg0 hg1 e0 e1 m0 m1
  have hb := (mkOk_of hv).1.bp i hi
  rw [he]
  exact (cancel_r hb this).symm
set_option maxRecDepth 100000 in
set_option maxHeartbeats 4000000 in
theorem law_mworths (A : Option Addr) (n c : Nat) (U : Option Addr) (m d : Nat) (B : List Int) (V : List (List Int)) (W : World) (hK : MktArg W A n c U m d B V) :
    Calls Try.prog 7 #[mktV A n c U m d] W fun e w' => e = .returned (.bool true) ∧ Below W.heap.size W w' := by
  have hC1 := Ch.start W A n c U m d
  obtain ⟨w1, hw1⟩ : ∃ w1, w1 = W.alloc (.cells #[.slice A n c, .slice U m d] 25) := ⟨_, rfl⟩
  rw [← hw1] at hC1
  have HK := Lib.hid (And.intro hK trivial)
  have HC1 := Lib.hid hC1
  obtain ⟨m1, m2, _, _⟩ := hC1.1.at2
  clear hK hC1
  unfold mktV
  go_enter Try.func7, Try.ntmps7
  go_wp2_with fail
  rw [← hw1]
  clear hw1
  refine ((HK.out.1.below HC1.out.2).of).mono ?_
  rintro e w2 ⟨A2, n2, c2, U2, q2, d2, b2, vs2, rfl, hO2⟩
  have HC2 := Lib.hid (HC1.out.next hO2.below)
  have HO2 := Lib.hid hO2
  clear hO2 m1 m2
  go_wp2_with fail
  refine (of_worth HO2.out).mono ?_
  intro ev w3 hpost
  unfold WorthPost at hpost
  obtain ⟨hb3, hpost⟩ := hpost
  have HC3 := Lib.hid (HC2.out.next hb3)
  clear hb3
  obtain ⟨m1, m2, _, _⟩ := HC3.out.1.at2
  cases hp : prF B V with
  | none =>
    rw [hp] at hpost
    subst hpost
    have hvf : validM B V = false := by
      cases hv : validM B V with
      | false => rfl
      | true =>
        obtain ⟨r, hr⟩ := found_any B V hv
        unfold prF at hp
        rw [if_pos hv, hr] at hp
        cases hp
    have HP := Lib.hid (And.intro hp hvf)
    have HV := Lib.hid (HK.out.1.below HC3.out.2).valid
    rw [hvf] at HV
    clear hp hvf
    go_wp2_with fail
    refine HV.out.mono ?_
    rintro e w6 ⟨rfl, hb6⟩
    have HC6 := Lib.hid (HC3.out.next hb6)
    clear hb6 m1 m2 HV
    go_wp2_with fail
    refine (l4awake_any _).mono ?_
    rintro e w10 ⟨rfl, hb10⟩
    have HC10 := Lib.hid (HC6.out.next hb10)
    clear hb10
    go_wp2_with fail
    go_ret
    exact ⟨rfl, HC10.out.2⟩
  | some r =>
    rw [hp] at hpost
    obtain ⟨WA, wc, rfl, hF3⟩ := hpost
    have hpr := prF_ok hp
    have hg3 := (validM_iff.1 hpr.1).2.1
    have hn3 := (validM_iff.1 hpr.1).1
    have hBm := HK.out.1.mkt.hB
    obtain ⟨hmn, hmk0⟩ := mkIn_of (HK.out.1.below HC3.out.2).mkt hpr.1
    subst hmn
    have hn13 := hmk0.hn
    have hwl : (worL V m (goodsN V) r).length = m := by simp [worL]
    rw [hBm] at hF3 ⊢
    obtain ⟨k, hk⟩ : ∃ k, k = goodsN V := ⟨_, rfl⟩
    rw [← hk] at hg3 hF3 hwl
    have HP := Lib.hid (And.intro hp (And.intro hpr (And.intro hBm (And.intro hk hwl))))
    have HF3 := Lib.hid hF3
    have HV := Lib.hid (HK.out.1.below HC3.out.2).valid
    rw [hpr.1] at HV
    clear hp hpr hk hF3 hn3 hBm hwl hmk0
    go_wp2_with fail
    refine HV.out.mono ?_
    rintro e w6 ⟨rfl, hb6⟩
    have HC6 := Lib.hid (HC3.out.next hb6)
    have HF6 := Lib.hid (HF3.out.below hb6)
    clear hb6 m1 m2 HV
    obtain ⟨_, hmk⟩ := mkIn_of (HK.out.1.below HC6.out.2).mkt HP.out.2.1.1
    rw [← HP.out.2.2.2.1] at hmk
    have HSV := Lib.hid (r4solve_any A m c U d k B V w6 hmk HP.out.2.1.1)
    obtain ⟨m1, m2, _, _⟩ := HC6.out.1.at2
    clear hmk
    go_wp2_with fail
    refine HSV.out.mono ?_
    rintro e w7 ⟨QA, QS, set, rfl, hset, hX, hok, hF7, hS7, hb7⟩
    rw [sol_pri HP.out.1 hok] at hF7 hS7
    have HC7 := Lib.hid (HC6.out.next hb7)
    have hSR := sol_ref HP.out.1 HP.out.2.2.2.1.symm hset hn13 hg3 hX hok
    obtain ⟨_, hmk⟩ := mkIn_of (HK.out.1.below HC7.out.2).mkt HP.out.2.1.1
    rw [← HP.out.2.2.2.1] at hmk
    have HWO := Lib.hid (r4worth_any A m c U d k k m QA QS B V (r.1, spM m k (spF m k B r.1 set)) w7 hmk HP.out.2.1.1 hSR hF7 hS7)
    have HSR := Lib.hid hSR
    have HF7 := Lib.hid (HF6.out.below hb7)
    obtain ⟨m1, m2, _, _⟩ := HC7.out.1.at2
    clear hset hX hok hF7 hS7 hb7 HSV hmk hSR
    go_wp2_with fail
    refine HWO.out.mono ?_
    rintro e w8 ⟨A8, c8, rfl, hF8, hb8⟩
    have hsame : worL V m k (r.1, spM m k (spF m k B r.1 set)) = worL V m k r := by
      have h1 := HSR.out
      have h2 := HP.out.2.1.2
      have h3 := wor_same (r := r) (r' := (r.1, spM m k (spF m k B r.1 set))) HP.out.2.1.1 h2 (by rw [HP.out.2.2.1, ← HP.out.2.2.2.1]; exact h1) rfl
      rwa [HP.out.2.2.1, ← HP.out.2.2.2.1] at h3
    rw [hsame] at hF8
    have HC8 := Lib.hid (HC7.out.next hb8)
    have HEQ := Lib.hid (equalF_any WA A8 m m wc c8 (worL V m k r) (worL V m k r) w8 HP.out.2.2.2.2 HP.out.2.2.2.2 (by omega) (HF7.out.below hb8) hF8)
    clear hsame hF8 hb8 m1 m2 HWO
    go_wp2_with fail
    refine HEQ.out.mono ?_
    rintro e w9 ⟨rfl, m9, rfl⟩
    rw [show ∀ l : List Rat, eqB l l = true from fun l => decide_eq_true rfl]
    have HC9 := Lib.hid (HC8.out.next (below_drewN (Below.refl w8.heap.size w8) m9))
    clear HEQ
    go_wp2_with fail
    refine (l4awake_any _).mono ?_
    rintro e w11 ⟨rfl, hb11⟩
    have HC11 := Lib.hid (HC9.out.next hb11)
    clear hb11
    go_wp2_with fail
    go_ret
    exact ⟨rfl, HC11.out.2⟩
end Go.Proofs.Ytnljnjnmhbkdoaa
