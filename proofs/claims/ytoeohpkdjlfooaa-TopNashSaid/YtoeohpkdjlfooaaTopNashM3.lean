/- Laws and contracts that the proof of TopNash uses, part 3. -/
import Derived.Test.YtoeohpkdjlfooaaTopNashM2
import Derived.Deep.RegionHeld3
import Derived.Laws.AppendOwnNone
import Derived.Test.YtoeohpkdjlfooaaTopNashM1
namespace Go.Proofs.Ytoeohpkdjlfooaa
open Go.RowKit

/- Contract: balanced of package market. -/

/-- The slice of slices of fractions at A reads as S. -/
def FMat (w : World) (A : Option Addr) (S : List (List Rat)) : Prop :=
  ∀ (j : Nat) (r : List Rat), S[j]? = some r → ∃ ad A' c, A = some ad ∧ w.cell? (ad.add j) = some (.slice A' r.length c) ∧ Fracs w A' r
theorem FMat.below {w w' : World} {A : Option Addr} {S : List (List Rat)} (h : FMat w A S) (hb : Below w.heap.size w w') : FMat w' A S := fun j r hj => by
  obtain ⟨ad, A', c, h1, h2, h3⟩ := h j r hj
  exact ⟨ad, A', c, h1, (hb.cell (lt_of_cell h2)).trans h2, h3.below hb⟩
theorem FMat.some_ {w : World} {A : Option Addr} {S : List (List Rat)} (h : FMat w A S) (hn : 0 < S.length) : ∃ ad, A = some ad ∧ ad.block < w.heap.size ∧ ∀ (j : Nat) (r : List Rat), S[j]? = some r → ∃ A' c, w.cell? (ad.add j) = some (.slice A' r.length c) ∧ Fracs w A' r := by
  obtain ⟨ad, A', c, h1, h2, _⟩ := h 0 _ (List.getElem?_eq_getElem hn)
  refine ⟨ad, h1, by have := lt_of_cell h2; rwa [add_block] at this, fun j r hj => ?_⟩
  obtain ⟨ad', A', c, h1', h2, h3⟩ := h j r hj
  rw [h1] at h1'
  injection h1' with h1'
  subst h1'
  exact ⟨A', c, h2, h3⟩
def balV (P : Option Addr) (k cp : Nat) (Sp : Option Addr) (n cs : Nat) : Value := .agg #[.slice P k cp, .slice Sp n cs]
theorem keep2 {w1 w' w'' : World} {p1 p2 : Addr} {v1 v2 : Value} (h : w'.cell? p1 = some v1 ∧ w'.cell? p2 = some v2 ∧ Below w1.heap.size w1 w') (hb : Below w'.heap.size w' w'') :
    w''.cell? p1 = some v1 ∧ w''.cell? p2 = some v2 ∧ Below w1.heap.size w1 w'' := by
  obtain ⟨h1, h2, h5⟩ := h
  exact ⟨(hb.cell (lt_of_cell h1)).trans h1, (hb.cell (lt_of_cell h2)).trans h2, h5.trans (hb.mono h5.size)⟩
/-- What balanced is given. -/
structure BalIn (w : World) (A : Option Addr) (n : Nat) (U P : Option Addr) (k : Nat) (Sp : Option Addr) (B : List Int) (V : List (List Int)) (p : List Rat) (S : List (List Rat)) : Prop where
  mkt : MktAt w A n U n B V
  hn : 1 ≤ n ∧ n ≤ 3
  hk : k = 1 ∨ k = 2 ∨ k = 3
  hg : goodsN V = k
  rows : ∀ r ∈ V, rowOk k r = true
  buds : ∀ b ∈ B, 1 ≤ b ∧ b ≤ 20
  hp : p.length = k
  pok : ∀ q ∈ p, PrOk q
  hP : Fracs w P p
  hS : S.length = n
  srow : ∀ r ∈ S, r.length = k
  sok : ∀ r ∈ S, ∀ q ∈ r, SpB q
  hSp : FMat w Sp S
theorem BalIn.below {w w' : World} {A : Option Addr} {n : Nat} {U P : Option Addr} {k : Nat} {Sp : Option Addr} {B : List Int} {V : List (List Int)} {p : List Rat} {S : List (List Rat)} (h : BalIn w A n U P k Sp B V p S) (hb : Below w.heap.size w w') : BalIn w' A n U P k Sp B V p S :=
  { h with mkt := h.mkt.below hb, hP := h.hP.below hb, hSp := h.hSp.below hb }
set_option maxRecDepth 100000 in
set_option maxHeartbeats 4000000 in
theorem mbalanced_any (A : Option Addr) (n c : Nat) (U : Option Addr) (d : Nat) (P : Option Addr) (k cp : Nat) (Sp : Option Addr) (cs : Nat) (B : List Int) (V : List (List Int)) (p : List Rat) (S : List (List Rat)) (w : World) (h : BalIn w A n U P k Sp B V p S) :
    Calls Try.prog 45 #[mktV A n c U n d, balV P k cp Sp n cs] w fun e w' => e = .returned (.bool (balB B V p S)) ∧ Below w.heap.size w w' := by
  have hn := h.hn
  have hk := h.hk
  obtain ⟨aS, rfl, _, hcS⟩ := h.hSp.some_ (by rw [h.hS]; omega)
  obtain ⟨aP, hPe, _, hcP⟩ := h.hP.some_ (by rw [h.hp]; omega)
  obtain ⟨aB, hBe, _, hcB⟩ := h.mkt.budgets.some_ (by rw [h.mkt.hB]; omega)
  have hk3 : 1 ≤ k ∧ k ≤ 3 := by omega
  obtain ⟨w2, hw2⟩ : ∃ w2, w2 = (w.alloc (.cells #[.slice A n c, .slice U n d] 28)).alloc (.cells #[.slice P k cp, .slice (some aS) n cs] 47) := ⟨_, rfl⟩
  have hb2 : Below w.heap.size w w2 := by rw [hw2]; exact ((Below.refl _ _).alloc (Nat.le_refl _) _).alloc (by simp) _
  have hM2 : Blk w2 w.heap.size 28 #[.slice A n c, .slice U n d] := by rw [hw2]; exact (Blk.new _ _ _ rfl).alloc _
  have hN2 : Blk w2 (w.heap.size + 1) 47 #[.slice P k cp, .slice (some aS) n cs] := by rw [hw2]; exact Blk.new _ _ _ (by simp)
  have hsz2 : w2.heap.size = w.heap.size + 2 := by rw [hw2]; simp
  have h2 := h.below hb2
  have hsok := spd_ok h.sok
  obtain ⟨x0, x1, _, _⟩ := hM2.at2
  have H := Lib.hid (And.intro h2 (And.intro hb2 (And.intro hM2 (And.intro hN2 (And.intro hcS (And.intro hcP (And.intro hcB hsok)))))))
  subst hPe
  subst hBe
  clear h h2 hb2 hM2 hN2 hcS hcP hcB hsok
  unfold mktV balV
  go_enter Try.func45, Try.ntmps45
  go_wp2_with fail
  rw [← hw2]
  have hS0 : w2.cell? ⟨w.heap.size, 0, none⟩ = some (.slice (some aB) n c) ∧ w2.cell? ⟨w.heap.size, 1, none⟩ = some (.slice U n d) ∧ Below w2.heap.size w2 w2 := ⟨x0, x1, Below.refl _ _⟩
  clear hw2
  have HGO : Hid (∀ w', Below w2.heap.size w2 w' → Calls Try.prog 32 #[.agg #[.slice (some aB) n c, .slice U n d]] w' fun e w'' => e = .returned (.int .i64 k) ∧ Below w'.heap.size w' w'') := Lib.hid fun w' hb => by
    have := mgoods_any (some aB) n c U n d B V w' (H.out.1.mkt.below hb) (by omega)
    rw [H.out.1.hg] at this
    exact this
  have HWH : Hid (∀ w', Calls Try.prog 17 #[.int .i64 0] w' fun e w'' => e = .returned (.agg #[.int .i64 0, .int .i64 1]) ∧ Below w'.heap.size w' w'') := Lib.hid fun w' => mwhole_any 0 w'
  have HRP : Hid (∀ (w' : World) (gx : Nat), Blk w' gx 49 #[.int .i64 0, .int .i64 1] → Calls Try.prog 51 #[.slice (some ⟨gx, 0, none⟩) 1 1, .int .i64 k] w' fun e w'' => ∃ g, e = .returned (.slice (some ⟨g, 0, none⟩) k k) ∧ PrB w'' g 49 (List.replicate k (0, 1)) ∧ w'.heap.size ≤ g ∧ Below w'.heap.size w' w'') := Lib.hid fun w' gx hx => repeatM_any k gx hk w' hx
  clear hk
  go_region_held3 (fun w' => w'.cell? ⟨w.heap.size, 0, none⟩ = some (.slice (some aB) n c) ∧ w'.cell? ⟨w.heap.size, 1, none⟩ = some (.slice U n d) ∧ Below w2.heap.size w2 w')
    (first | assumption | exact ⟨hS0.1, hS0.2.1, hS0.2.2.drew⟩ | exact keep2 (by assumption) (by assumption) | exact keep2 (by assumption) ((Below.refl _ _).alloc (Nat.le_refl _) _))
    (first
      | (go_at_call 17; refine (HWH.out _).mono ?_; rintro e wA ⟨rfl, hbA⟩)
      | (go_at_call 32; refine (HGO.out _ (by first | exact hS0.2.2.drew | (have := ‹_ ∧ _ ∧ Below w2.heap.size w2 _›; exact this.2.2))).mono ?_; rintro e wB ⟨rfl, hbB⟩)
      | (go_at_call 51; refine (HRP.out _ _ (by first | exact Blk.new _ _ _ rfl | exact (Blk.new _ _ _ rfl).below hbB (by simp))).mono ?_; rintro e wC ⟨gs, rfl, hBC, hgC, hbC⟩))
  all_goals
    have hHH := ‹wC.cell? _ = some _ ∧ wC.cell? _ = some _ ∧ Below w2.heap.size w2 wC›
    have hbC2 := hHH.2.2
    have hgs : w2.heap.size ≤ gs := by
      have h1 := hbA.size
      have h2 := hbB.size
      simp at h1 h2 hgC
      omega
    have hBC' : PrB wC gs 49 ((colTo S k 0 0).map pr) := by
      rw [colTo_zero, List.map_replicate]; exact hBC
    have H1 := Lib.hid (And.intro hBC' hbC2)
    have hN3 := H.out.2.2.2.1.below hbC2 (by omega)
    obtain ⟨y0, y1, _, _⟩ := hN3.at2
    clear hbA hbB hbC hgC hBC hBC' hHH hbC2 hN3
    go_wp2_with fail
    go_loopw [19] (fun iv wr => ∃ i : Nat, i ≤ n ∧ iv = .int .i64 i ∧ (∀ j, j < i → lineOk B V p S j = true) ∧ PrB wr gs 49 ((colTo S k i 0).map pr) ∧ Below w2.heap.size w2 wr) (fun iv _ => n - (intOf iv).toNat)
    case atStart => exact ⟨0, Nat.zero_le _, rfl, fun j hj => by omega, H1.out.1, H1.out.2⟩
    case round =>
      obtain ⟨i, hi, rfl, hln, hB, hbl⟩ := hrel
      obtain ⟨wo, rfl⟩ : ∃ wo : World, wo = wr := ⟨_, rfl⟩
      have hgl := hB.lt
      have hN3 := H.out.2.2.2.1.below hbl (by omega)
      have hM3 := H.out.2.2.1.below hbl (by omega)
      obtain ⟨y0, y1, _, _⟩ := hN3.at2
      obtain ⟨x0, x1, _, _⟩ := hM3.at2
      have HR := Lib.hid (And.intro hB (And.intro hbl (And.intro hln (H.out.2.1.trans (hbl.mono (by omega))))))
      have hws : w2.heap.size ≤ wo.heap.size := hbl.size
      clear hB hbl hln hN3 hM3
      by_cases hlt : i < n
      · obtain ⟨R, cr, c0, hR⟩ := H.out.2.2.2.2.1 i _ (rowQ_some (by rw [H.out.1.hS]; exact hlt))
        have hrl : (rowQ S i).length = k := H.out.1.srow _ (List.mem_of_getElem? (rowQ_some (by rw [H.out.1.hS]; exact hlt)))
        rw [hrl] at c0
        have c0' := (HR.out.2.2.2.cell (lt_of_cell c0)).trans c0
        have hR' : Fracs wo R (rowQ S i) := At.keep hR fun q v hq => (HR.out.2.2.2.cell (lt_of_cell hq)).trans hq
        obtain ⟨ar, hRe, _, hcR⟩ := hR.some_ (by rw [hrl]; omega)
        subst hRe
        have HRW := Lib.hid (And.intro hR' (And.intro hrl hcR))
        clear hR hR' hrl c0 hcR
        go_wp2_with fail
        refine (mwhole_any 0 _).mono ?_
        rintro e wD ⟨rfl, hbD⟩
        rw [fr_int]
        have hBD : PrB (wD.alloc (.cells #[.int .i64 0, .int .i64 1] 49)) gs 49 ((colTo S k i 0).map pr) := Blk.alloc (HR.out.1.below hbD hgl) _
        have hbD2 := (HR.out.2.1.trans (hbD.mono hws)).alloc (B := w2.heap.size) (Nat.le_trans hws hbD.size) (.cells #[.int .i64 0, .int .i64 1] 49)
        have hbl2 : Below wo.heap.size wo (wD.alloc (.cells #[.int .i64 0, .int .i64 1] 49)) := hbD.alloc hbD.size _
        have hwD : wo.heap.size ≤ wD.heap.size := hbD.size
        have hS0 : Blk (wD.alloc (.cells #[.int .i64 0, .int .i64 1] 49)) wD.heap.size 49 #[.int .i64 0, .int .i64 1] := Blk.new _ _ _ rfl
        have HD := Lib.hid (And.intro hBD (And.intro hbl2 (And.intro hS0 (HRW.out.1.below hbl2))))
        clear hBD hbD2 hbl2 hS0 hbD
        go_wp2_with fail
        go_loopw [27] (fun gv wr => ∃ g : Nat, g ≤ k ∧ gv = .int .i64 g ∧ (∀ h, h < g → cellOk V p S i h = true) ∧ Blk wr wD.heap.size 49 #[.int .i64 (sumF (spd S i) g).num, .int .i64 ((sumF (spd S i) g).den : Int)] ∧ PrB wr gs 49 ((colTo S k i g).map pr) ∧ Kept wo.heap.size [gs] wo wr) (fun gv _ => k - (intOf gv).toNat)
        case atStart => exact ⟨0, Nat.zero_le _, rfl, fun h hh => by omega, HD.out.2.2.1, HD.out.1, Kept.of_below HD.out.2.1 _⟩
        case round =>
          obtain ⟨g, hg, rfl, hce, hSm, hBg, hkp⟩ := hrel
          have hml := hSm.lt
          have hgl2 := hBg.lt
          have hbq2 : Below w2.heap.size w2 wr := HR.out.2.1.trans (hkp.mono (B' := w2.heap.size) (S' := []) hws (fun y hy => by simp at hy; omega)).below
          have hbqw : Below w.heap.size w wr := HR.out.2.2.2.trans (hkp.mono (B' := w.heap.size) (S' := []) (by omega) (fun y hy => by simp at hy; omega)).below
          have hwq : wD.heap.size < wr.heap.size := hml
          have hN4 := H.out.2.2.2.1.below hbq2 (by omega)
          have hM4 := H.out.2.2.1.below hbq2 (by omega)
          have HQ := Lib.hid (And.intro hce (And.intro hSm (And.intro hBg (And.intro hkp (And.intro hN4 (And.intro hM4 (And.intro hbq2 hbqw)))))))
          clear hce hSm hBg hkp hN4 hM4 hbq2 hbqw
          by_cases hlg : g < k
          · obtain ⟨q, hq⟩ : ∃ q, (rowQ S i)[g]? = some q := ⟨_, List.getElem?_eq_getElem (by rw [HRW.out.2.1]; exact hlg)⟩
            have hsp : spd S i g = q := by unfold spd; rw [List.getD_eq_getElem?_getD, hq]; rfl
            obtain ⟨p1, p2⟩ := HRW.out.2.2 g q hq
            have e1 := (HQ.out.2.2.2.2.2.2.2.cell (lt_of_cell p1)).trans p1
            have e2 := (HQ.out.2.2.2.2.2.2.2.cell (lt_of_cell p2)).trans p2
            have hqs : SpB q := by rw [← hsp]; exact H.out.2.2.2.2.2.2.2 i g
            have hqd := den_pos q
            have hq1 := hqs.1
            have hq2 := hqs.2.1
            have hq3 := hqs.2.2
            have HLS := Lib.hid fun w' => mless_raw q 0 w' (by simp; omega) (by simp; omega) (by simp) (by simp) (by simp; omega) (by omega) (by simp) (by simp)
            have HSP := Lib.hid (And.intro hsp hqs)
            have hlv1 := lv_add (j := g) (by omega) (sumF_lv (f := spd S i) g (by omega) fun y _ => H.out.2.2.2.2.2.2.2 i y) hqs
            have hlv2 := lv_add (j := i) (by omega) (sumF_lv (f := fun j => spd S j g) i (by omega) fun y _ => H.out.2.2.2.2.2.2.2 y g) hqs
            have HP1 := Lib.hid fun w' => mplus_raw (sumF (spd S i) g) q w' hlv1.2.1.1 hlv1.2.1.2 hlv1.2.2.1.1 hlv1.2.2.1.2 hlv1.2.2.2.1 hlv1.2.2.2.2.1 hlv1.2.2.2.2.2
            have HP2 := Lib.hid fun w' => mplus_raw (sumF (fun j => spd S j g) i) q w' hlv2.2.1.1 hlv2.2.1.2 hlv2.2.2.1.1 hlv2.2.2.1.2 hlv2.2.2.2.1 hlv2.2.2.2.2.1 hlv2.2.2.2.2.2
            have hsn1 : sumF (spd S i) (g + 1) = sumF (spd S i) g + q := by rw [sumF, hsp]
            have hsn2 : sumF (fun j => spd S j g) (i + 1) = sumF (fun j => spd S j g) i + q := by rw [sumF, hsp]
            rw [← hsn1] at HP1
            rw [← hsn2] at HP2
            obtain ⟨s1, hs1⟩ : ∃ s, s = sumF (spd S i) g := ⟨_, rfl⟩
            obtain ⟨s2, hs2⟩ : ∃ s, s = sumF (spd S i) (g + 1) := ⟨_, rfl⟩
            obtain ⟨t1, ht1⟩ : ∃ s, s = sumF (fun j => spd S j g) i := ⟨_, rfl⟩
            obtain ⟨t2, ht2⟩ : ∃ s, s = sumF (fun j => spd S j g) (i + 1) := ⟨_, rfl⟩
            have hget : ((colTo S k i g).map pr)[g]? = some (t1.num, (t1.den : Int)) := by rw [List.getElem?_map, colTo_get hlg, ← ht1]; rfl
            have hset : ((colTo S k i g).map pr).set g (t2.num, (t2.den : Int)) = (colTo S k i (g + 1)).map pr := by
              rw [← colTo_set hlg, ← ht2, List.map_set]; rfl
            rw [← hs1] at HP1 HQ
            rw [← hs2] at HP1
            rw [← ht1, ← ht2] at HP2
            have HSS := Lib.hid (And.intro hs2 (And.intro hget hset))
            have HWH2 := Lib.hid fun w' => mwhole_any 0 w'
            unfold fr at HLS HP1 HP2 HWH2
            rw [show (0 : Rat).num = 0 from rfl, show ((0 : Rat).den : Int) = 1 from rfl] at HLS
            rw [Rat.num_intCast, Rat.den_intCast] at HWH2
            clear hq hsp p1 p2 hqs hqd hq1 hq2 hq3 hlv1 hlv2 hsn1 hsn2 hs1 hs2 ht1 ht2 hget hset
            go_wp2_with fail
            clear e1 e2
            obtain ⟨w3, hw3⟩ : ∃ w3, w3 = wr.alloc (.cells #[.int .i64 q.num, .int .i64 (q.den : Int)] 49) := ⟨_, rfl⟩
            rw [← hw3]
            have hb3 : Below wr.heap.size wr w3 := by rw [hw3]; exact (Below.refl _ _).alloc (Nat.le_refl _) _
            have hX3 : Blk w3 wr.heap.size 49 #[.int .i64 q.num, .int .i64 (q.den : Int)] := by rw [hw3]; exact Blk.new _ _ _ rfl
            have hz3 := hX3.lt
            have H3 := Lib.hid (And.intro hb3 hX3)
            obtain ⟨f0, f1, _, _⟩ := hX3.at2
            have d1 : ∀ s : Desc w3, s.val.cell? ⟨wr.heap.size, 0, none⟩ = some (.int .i64 q.num) := fun s => s.cell f0
            have d2 : ∀ s : Desc w3, s.val.cell? ⟨wr.heap.size, 1, none⟩ = some (.int .i64 (q.den : Int)) := fun s => s.cell f1
            have HL3 : Hid (∀ s : Desc w3, Calls Try.prog 52 #[.agg #[.int .i64 q.num, .int .i64 (q.den : Int)], .agg #[.int .i64 0, .int .i64 1]] s.val fun e w'' => e = .returned (.bool (decide (q < 0))) ∧ ∃ s' : Desc w3, w'' = s'.val) := Lib.hid fun s => Calls.desc_of (HLS.out _)
            have HW3 : Hid (∀ s : Desc w3, Calls Try.prog 17 #[.int .i64 0] s.val fun e w'' => e = .returned (.agg #[.int .i64 0, .int .i64 1]) ∧ ∃ s' : Desc w3, w'' = s'.val) := Lib.hid fun s => Calls.desc_of (HWH2.out _)
            clear hw3 hb3 hX3 f0 f1
            refine wp_region_desc (by kernel_rfl) (by kernel_rfl) ?_
            repeat (go_big_quiet_step (first | (go_at_call 17; exact HW3.out _) | (go_at_call 52; exact HL3.out _)))
            refine wpQuiet_nil ?_
            rintro _ ⟨sd, rfl⟩
            have hb4 := sd.below
            generalize sd.val = w4 at hb4 ⊢
            clear d1 d2
            have hX4 := H3.out.2.below hb4 hz3
            have hb34 : Below wr.heap.size wr w4 := H3.out.1.trans (hb4.mono H3.out.1.size)
            have hS4 := HQ.out.2.1.below hb34 hml
            have hB4 := HQ.out.2.2.1.below hb34 hgl2
            have H4 := Lib.hid (And.intro hb34 (And.intro hX4 (And.intro hS4 hB4)))
            have hz4 : wr.heap.size < w4.heap.size := hX4.lt
            clear hb4 hb34 hX4 hS4 hB4
            by_cases hneg : q < 0
            · have hd : decide (q < 0) = true := decide_eq_true hneg
              rw [hd]
              have HF : Hid (balB B V p S = false) := Lib.hid (bal_cell (i := i) (g := g) (by rw [H.out.1.mkt.hB]; exact hlt) (by rw [H.out.1.hp]; exact hlg) (by
                unfold cellOk
                rw [HSP.out.1, decide_eq_false (by grind)]; rfl))
              have HB := Lib.hid (HQ.out.2.2.2.2.2.2.2.trans (H4.out.1.mono (by omega)))
              clear hneg hd
              go_wp2_with fail
              go_ret
              exact ⟨ret_bool HF.out.symm, HB.out⟩
            · have hd : decide (q < 0) = false := decide_eq_false hneg
              rw [hd]
              have HNN := Lib.hid hneg
              clear hneg hd
              obtain ⟨u0, u1, _, _⟩ := H4.out.2.1.at2
              obtain ⟨v0, v1, _, _⟩ := H4.out.2.2.1.at2
              go_wp2_with fail
              refine (HP1.out _).mono ?_
              rintro e w5 ⟨rfl, hb5⟩
              have hX5 := H4.out.2.1.below hb5 hz4
              have hS5 := H4.out.2.2.1.below hb5 (by omega)
              have hB5 := H4.out.2.2.2.below hb5 (by omega)
              have hb45 : Below wr.heap.size wr w5 := H4.out.1.trans (hb5.mono H4.out.1.size)
              obtain ⟨v0, v1, v2, v3⟩ := hS5.at2
              have n1 : gs ≠ wD.heap.size := by omega
              have n2 : wr.heap.size ≠ wD.heap.size := by omega
              obtain ⟨w6, hw6⟩ : ∃ w6, w6 = (w5.setCell ⟨wD.heap.size, 0, none⟩ (.int .i64 s2.num)).setCell ⟨wD.heap.size, 1, none⟩ (.int .i64 (s2.den : Int)) := ⟨_, rfl⟩
              have hS6 : Blk w6 wD.heap.size 49 #[.int .i64 s2.num, .int .i64 (s2.den : Int)] := by rw [hw6]; exact (hS5.set_ 0 _).set_ 1 _
              have hX6 : Blk w6 wr.heap.size 49 #[.int .i64 q.num, .int .i64 (q.den : Int)] := by rw [hw6]; exact (hX5.far n2 _).far n2 _
              have hB6 : PrB w6 gs 49 ((colTo S k i g).map pr) := by rw [hw6]; exact Blk.far (Blk.far hB5 n1 _) n1 _
              have hk6 : Kept wo.heap.size [gs] wo w6 := by
                rw [hw6]
                exact ((HQ.out.2.2.2.1.trans (Kept.of_below (hb45.mono (by omega)) [gs])).setCell (.inr (by show wo.heap.size ≤ wD.heap.size; exact hwD)) _).setCell (.inr (by show wo.heap.size ≤ wD.heap.size; exact hwD)) _
              have H6 := Lib.hid (And.intro hS6 (And.intro hX6 (And.intro hB6 hk6)))
              have hz6 := hB6.lt
              have hz6x := hX6.lt
              have hz6s := hS6.lt
              clear hX5 hS5 hB5 hb45 hb5 hS6 hX6 hB6 hk6
              go_wp2_with fail
              rw [← hw6]
              clear hw6 u0 u1 v0 v1 v2 v3
              obtain ⟨r1, r2⟩ := H6.out.2.2.1.read HSS.out.2.1
              obtain ⟨u0, u1, _, _⟩ := H6.out.2.1.at2
              have d1 : ∀ s : Desc w6, s.val.cell? ⟨gs, g * 2, none⟩ = some (.int .i64 t1.num) := fun s => s.cell r1
              have d2 : ∀ s : Desc w6, s.val.cell? ⟨gs, g * 2 + 1, none⟩ = some (.int .i64 (t1.den : Int)) := fun s => s.cell r2
              have d3 : ∀ s : Desc w6, s.val.cell? ⟨wr.heap.size, 0, none⟩ = some (.int .i64 q.num) := fun s => s.cell u0
              have d4 : ∀ s : Desc w6, s.val.cell? ⟨wr.heap.size, 1, none⟩ = some (.int .i64 (q.den : Int)) := fun s => s.cell u1
              have HP6 : Hid (∀ s : Desc w6, Calls Try.prog 18 #[.agg #[.int .i64 t1.num, .int .i64 (t1.den : Int)], .agg #[.int .i64 q.num, .int .i64 (q.den : Int)]] s.val fun e w'' => e = .returned (.agg #[.int .i64 t2.num, .int .i64 (t2.den : Int)]) ∧ ∃ s' : Desc w6, w'' = s'.val) := Lib.hid fun s => Calls.desc_of (HP2.out _)
              clear r1 r2 u0 u1
              refine wp_region_desc_tail 9 (by kernel_rfl) (by kernel_rfl) ?_
              simp only [List.take_succ_cons, List.take_zero, List.drop_succ_cons, List.drop_zero]
              repeat (go_big_quiet_step (first | (go_at_call 18; exact HP6.out _)))
              refine wpQuiet_nil ?_
              rintro _ ⟨sd, rfl⟩
              have hb7 := sd.below
              generalize sd.val = w7 at hb7 ⊢
              clear d1 d2 d3 d4
              have hB7 := H6.out.2.2.1.below hb7 hz6
              have hX7 := H6.out.2.1.below hb7 hz6x
              have hS7 := H6.out.1.below hb7 hz6s
              have hk7 : Kept wo.heap.size [gs] wo w7 := H6.out.2.2.2.trans (Kept.of_below (hb7.mono H6.out.2.2.2.size) [gs])
              obtain ⟨r1, r2⟩ := hB7.read HSS.out.2.1
              have r3 := hB7.frozen (g * 2)
              have r4 := hB7.frozen (g * 2 + 1)
              have n3 : wr.heap.size ≠ gs := by omega
              have n4 : wD.heap.size ≠ gs := by omega
              obtain ⟨w8, hw8⟩ : ∃ w8, w8 = (w7.setCell ⟨gs, g * 2, none⟩ (.int .i64 t2.num)).setCell ⟨gs, g * 2 + 1, none⟩ (.int .i64 (t2.den : Int)) := ⟨_, rfl⟩
              have hB8 : PrB w8 gs 49 ((colTo S k i (g + 1)).map pr) := by rw [hw8, ← HSS.out.2.2]; exact hB7.set_ g _ _
              have hX8 : Blk w8 wr.heap.size 49 #[.int .i64 q.num, .int .i64 (q.den : Int)] := by rw [hw8]; exact (hX7.far n3 _).far n3 _
              have hS8 : Blk w8 wD.heap.size 49 #[.int .i64 s2.num, .int .i64 (s2.den : Int)] := by rw [hw8]; exact (hS7.far n4 _).far n4 _
              have hk8 : Kept wo.heap.size [gs] wo w8 := by rw [hw8]; exact (hk7.setCell (.inl (by simp)) _).setCell (.inl (by simp)) _
              have hb8 : Below w2.heap.size w2 w8 := HR.out.2.1.trans (hk8.mono (B' := w2.heap.size) (S' := []) hws (fun y hy => by simp at hy; omega)).below
              have hM8 := H.out.2.2.1.below hb8 (by omega)
              have hN8 := H.out.2.2.2.1.below hb8 (by omega)
              have H8 := Lib.hid (And.intro hB8 (And.intro hS8 (And.intro hk8 (And.intro hb8 hX8))))
              have hz8 := hB8.lt
              have hz8s := hS8.lt
              have HI8 := Lib.hid (H.out.1.below hb8)
              go_wp2_with fail
              rw [← hw8]
              obtain ⟨f0, f1, _, _⟩ := hX8.at2
              obtain ⟨f2, f3, _, _⟩ := hM8.at2
              obtain ⟨f4, _, _, _⟩ := hN8.at2
              have d1 : ∀ s : Desc w8, s.val.cell? ⟨wr.heap.size, 0, none⟩ = some (.int .i64 q.num) := fun s => s.cell f0
              have d2 : ∀ s : Desc w8, s.val.cell? ⟨wr.heap.size, 1, none⟩ = some (.int .i64 (q.den : Int)) := fun s => s.cell f1
              have d3 : ∀ s : Desc w8, s.val.cell? ⟨w.heap.size, 0, none⟩ = some (.slice (some aB) n c) := fun s => s.cell f2
              have d4 : ∀ s : Desc w8, s.val.cell? ⟨w.heap.size, 1, none⟩ = some (.slice U n d) := fun s => s.cell f3
              have d5 : ∀ s : Desc w8, s.val.cell? ⟨w.heap.size + 1, 0, none⟩ = some (.slice (some aP) k cp) := fun s => s.cell f4
              have HW8 : Hid (∀ s : Desc w8, Calls Try.prog 17 #[.int .i64 0] s.val fun e w'' => e = .returned (.agg #[.int .i64 0, .int .i64 1]) ∧ ∃ s' : Desc w8, w'' = s'.val) := Lib.hid fun s => Calls.desc_of (HWH2.out _)
              have HWT : Hid (∀ s : Desc w8, Calls Try.prog 53 #[.agg #[.slice (some aB) n c, .slice U n d], .int .i64 i, .slice (some aP) k cp] s.val fun e w'' => e = .returned (.int .i64 (wantS (rowV V i) p : Nat)) ∧ ∃ s' : Desc w8, w'' = s'.val) := Lib.hid fun s =>
                Calls.desc_of (mwants_any (some aB) n c U n d i (some aP) k cp B V p _ (HI8.out.mkt.below s.below) (by omega) hlt HI8.out.hp hk3 (HI8.out.rows _ (List.mem_of_getElem? (rowV_some (by rw [HI8.out.mkt.hV]; exact hlt)))) HI8.out.pok (HI8.out.hP.below s.below))
              have hne := run_ne_mfrac q 0
              rw [show (0 : Rat).num = 0 from rfl, show ((0 : Rat).den : Int) = 1 from rfl] at hne
              have hwl : wantS (rowV V i) p < 9223372036854775808 := by
                have h1 := wTo_lt (rowV V i) p (rowV V i).length
                have h2 : (rowV V i).length = k := (rowOk_iff.1 (HI8.out.rows _ (List.mem_of_getElem? (rowV_some (by rw [HI8.out.mkt.hV]; exact hlt))))).1
                have h3 : (2 : Nat) ^ (rowV V i).length ≤ 8 := Nat.pow_le_pow_right (n := 2) (by omega) (show (rowV V i).length ≤ 3 by omega)
                unfold wantS
                omega
              clear f0 f1 f2 f3 f4 hw8 hb7 hB7 hX7 hS7 hk7 r1 r2 r3 r4 hB8 hX8 hS8 hk8 hb8 hM8 hN8
              by_cases hq0 : q = 0
              · rw [decide_eq_true hq0] at hne
                have HC : Hid (cellOk V p S i g = true) := Lib.hid (by unfold cellOk; rw [HSP.out.1, decide_eq_true hq0, decide_eq_true (by grind)]; rfl)
                clear hq0
                refine wp_region_desc (by kernel_rfl) (by kernel_rfl) ?_
                repeat (go_big_quiet_step (first | (go_at_call 17; exact HW8.out _)))
                refine wpQuiet_nil ?_
                rintro _ ⟨sd, rfl⟩
                have hb9 := sd.below
                generalize sd.val = w9 at hb9 ⊢
                clear d1 d2 d3 d4 d5 hne
                have hS9 := H8.out.2.1.below hb9 hz8s
                have hB9 := H8.out.1.below hb9 hz8
                have hk9 : Kept wo.heap.size [gs] wo w9 := H8.out.2.2.1.trans (Kept.of_below (hb9.mono H8.out.2.2.1.size) [gs])
                have H9 := Lib.hid (And.intro hS9 (And.intro hB9 hk9))
                clear hb9 hS9 hB9 hk9
                go_wp2_with fail
                go_roundw
                case rel => exact ⟨g + 1, by omega, by go_num, fun h hh => by
                  rcases Nat.lt_or_ge h g with h1 | h1
                  · exact HQ.out.1 h h1
                  · rw [show h = g by omega]; exact HC.out, by rw [← HSS.out.1]; exact H9.out.1, H9.out.2.1, H9.out.2.2⟩
                case measure => simp [intOf]; omega
              · rw [decide_eq_false hq0] at hne
                have hbt := and_shr (wantS (rowV V i) p) g hwl
                cases hbit : (wantS (rowV V i) p).testBit g
                · have HC : Hid (balB B V p S = false) := Lib.hid (bal_cell (i := i) (g := g) (by rw [H.out.1.mkt.hB]; exact hlt) (by rw [H.out.1.hp]; exact hlg) (by
                    unfold cellOk
                    rw [HSP.out.1, decide_eq_false hq0, hbit]; simp))
                  rw [hbit] at hbt
                  have hbt0 : (bits .and .i64 ((wantS (rowV V i) p : Int) / 2 ^ g) 1 == 0) = true := by rw [hbt]; rfl
                  have hbt' : bits .and .i64 ((wantS (rowV V i) p : Int) / 2 ^ g) 1 = 0 := hbt
                  clear hq0 hbit hbt
                  refine wp_region_desc (by kernel_rfl) (by kernel_rfl) ?_
                  repeat (go_big_quiet_step (first | (go_at_call 17; exact HW8.out _) | (go_at_call 53; exact HWT.out _)))
                  refine wpQuiet_nil ?_
                  rintro _ ⟨sd, rfl⟩
                  have hb9 := sd.below
                  generalize sd.val = w9 at hb9 ⊢
                  clear d1 d2 d3 d4 d5 hne
                  have HB9 := Lib.hid (H.out.2.1.trans ((H8.out.2.2.2.1.trans (hb9.mono H8.out.2.2.2.1.size)).mono (by omega)))
                  clear hb9
                  go_wp2_with fail
                  go_ret
                  exact ⟨ret_bool HC.out.symm, HB9.out⟩
                · have HC : Hid (cellOk V p S i g = true) := Lib.hid (by unfold cellOk; rw [HSP.out.1, hbit, decide_eq_true (by have := HNN.out; grind)]; simp)
                  rw [hbit] at hbt
                  have hbt0 : (bits .and .i64 ((wantS (rowV V i) p : Int) / 2 ^ g) 1 == 0) = false := by rw [hbt]; rfl
                  have hbt' : bits .and .i64 ((wantS (rowV V i) p : Int) / 2 ^ g) 1 = 1 := hbt
                  clear hq0 hbit hbt
                  refine wp_region_desc (by kernel_rfl) (by kernel_rfl) ?_
                  repeat (go_big_quiet_step (first | (go_at_call 17; exact HW8.out _) | (go_at_call 53; exact HWT.out _)))
                  refine wpQuiet_nil ?_
                  rintro _ ⟨sd, rfl⟩
                  have hb9 := sd.below
                  generalize sd.val = w9 at hb9 ⊢
                  clear d1 d2 d3 d4 d5 hne
                  have hS9 := H8.out.2.1.below hb9 hz8s
                  have hB9 := H8.out.1.below hb9 hz8
                  have hk9 : Kept wo.heap.size [gs] wo w9 := H8.out.2.2.1.trans (Kept.of_below (hb9.mono H8.out.2.2.1.size) [gs])
                  have H9 := Lib.hid (And.intro hS9 (And.intro hB9 hk9))
                  clear hb9 hS9 hB9 hk9
                  go_wp2_with fail
                  go_roundw
                  case rel => exact ⟨g + 1, by omega, by go_num, fun h hh => by
                    rcases Nat.lt_or_ge h g with h1 | h1
                    · exact HQ.out.1 h h1
                    · rw [show h = g by omega]; exact HC.out, by rw [← HSS.out.1]; exact H9.out.1, H9.out.2.1, H9.out.2.2⟩
                  case measure => simp [intOf]; omega
          · obtain rfl : g = k := by omega
            have hcol : colTo S g i g = colTo S g (i + 1) 0 := colTo_next S g i
            obtain ⟨b, hbb⟩ : ∃ b, B[i]? = some b := ⟨_, List.getElem?_eq_getElem (by rw [H.out.1.mkt.hB]; exact hlt)⟩
            have hbg : B.getD i 0 = b := by rw [List.getD_eq_getElem?_getD, hbb]; rfl
            have p1 := H.out.2.2.2.2.2.2.1 i b hbb
            have e1 := (HQ.out.2.2.2.2.2.2.2.cell (lt_of_cell p1)).trans p1
            have hline := line_of (B := B) (V := V) (p := p) (S := S) (i := i) (by rw [H.out.1.hp]; exact HQ.out.1)
            rw [H.out.1.hp, hbg] at hline
            have hne := run_ne_mfrac (sumF (spd S i) g) ((b : Int) : Rat)
            rw [Rat.num_intCast, Rat.den_intCast, show ((1 : Nat) : Int) = 1 from rfl] at hne
            obtain ⟨s1, hs1⟩ : ∃ s, s = sumF (spd S i) g := ⟨_, rfl⟩
            rw [← hs1] at hne hline HQ
            have HLN := Lib.hid (And.intro hline hcol)
            obtain ⟨f0, f1, _, _⟩ := HQ.out.2.1.at2
            obtain ⟨f2, _, _, _⟩ := HQ.out.2.2.2.2.2.1.at2
            have d1 : ∀ s : Desc wr, s.val.cell? ⟨wD.heap.size, 0, none⟩ = some (.int .i64 s1.num) := fun s => s.cell f0
            have d2 : ∀ s : Desc wr, s.val.cell? ⟨wD.heap.size, 1, none⟩ = some (.int .i64 (s1.den : Int)) := fun s => s.cell f1
            have d3 : ∀ s : Desc wr, s.val.cell? ⟨w.heap.size, 0, none⟩ = some (.slice (some aB) n c) := fun s => s.cell f2
            have d4 : ∀ s : Desc wr, s.val.cell? (aB.add i) = some (.int .i64 b) := fun s => s.cell e1
            have HWH2 := Lib.hid fun w' => mwhole_any b w'
            unfold fr at HWH2
            rw [Rat.num_intCast, Rat.den_intCast] at HWH2
            have HW8 : Hid (∀ s : Desc wr, Calls Try.prog 17 #[.int .i64 b] s.val fun e w'' => e = .returned (.agg #[.int .i64 b, .int .i64 1]) ∧ ∃ s' : Desc wr, w'' = s'.val) := Lib.hid fun s => Calls.desc_of (HWH2.out _)
            have l1 : (i : Int) < (n : Int) := by omega
            clear hbb hbg p1 e1 hline hcol hs1 f0 f1 f2
            go_wp2_with fail
            cases hd : decide (s1 = ((b : Int) : Rat))
            · rw [hd] at hne
              have HF : Hid (balB B V p S = false) := Lib.hid (bal_line (i := i) (by rw [H.out.1.mkt.hB]; exact hlt) (by rw [HLN.out.1, hd]))
              clear hd
              refine wp_region_desc (by kernel_rfl) (by kernel_rfl) ?_
              repeat (go_big_quiet_step (first | (go_at_call 17; exact HW8.out _)))
              refine wpQuiet_nil ?_
              rintro _ ⟨sd, rfl⟩
              have hb9 := sd.below
              generalize sd.val = w9 at hb9 ⊢
              clear d1 d2 d3 d4 hne
              have HB9 := Lib.hid (HQ.out.2.2.2.2.2.2.2.trans (hb9.mono HQ.out.2.2.2.2.2.2.2.size))
              clear hb9
              go_wp2_with fail
              go_ret
              exact ⟨ret_bool HF.out.symm, HB9.out⟩
            · rw [hd] at hne
              have HT : Hid (lineOk B V p S i = true) := Lib.hid (by rw [HLN.out.1, hd])
              clear hd
              refine wp_region_desc (by kernel_rfl) (by kernel_rfl) ?_
              repeat (go_big_quiet_step (first | (go_at_call 17; exact HW8.out _)))
              refine wpQuiet_nil ?_
              rintro _ ⟨sd, rfl⟩
              have hb9 := sd.below
              generalize sd.val = w9 at hb9 ⊢
              clear d1 d2 d3 d4 hne
              have hB9 := HQ.out.2.2.1.below hb9 hgl2
              rw [HLN.out.2] at hB9
              have H9 := Lib.hid (And.intro hB9 (HQ.out.2.2.2.2.2.2.1.trans (hb9.mono HQ.out.2.2.2.2.2.2.1.size)))
              clear hb9 hB9
              go_wp2_with fail
              go_roundw
              case rel => exact ⟨i + 1, by omega, by go_num, fun h hh => by
                rcases Nat.lt_or_ge h i with h1 | h1
                · exact HR.out.2.2.1 h h1
                · rw [show h = i by omega]; exact HT.out, H9.out.1, H9.out.2⟩
              case measure => simp [intOf]; omega
      · obtain rfl : i = n := by omega
        have hbal := bal_of (B := B) (V := V) (p := p) (S := S) (by rw [H.out.1.mkt.hB]; exact HR.out.2.2.1)
        rw [H.out.1.mkt.hB, H.out.1.hp] at hbal
        have hF1 : Fracs wo (some ⟨gs, 0, none⟩) (colTo S k i 0) := HR.out.1.prs
        have HBL := Lib.hid (And.intro hbal (And.intro hF1 (H.out.1.hP.below (HR.out.2.1))))
        clear hbal hF1
        go_wp2_with fail
        refine (equalM_any (some ⟨gs, 0, none⟩) (some aP) k k k cp (colTo S k i 0) p _ (colTo_length _ _ _ _) H.out.1.hp (by omega) HBL.out.2.1 HBL.out.2.2).mono ?_
        rintro e w9 ⟨rfl, m9, rfl⟩
        go_wp2_with fail
        go_ret
        exact ⟨ret_bool (by rw [HBL.out.1]; rfl), below_drewN HR.out.2.2.2 m9⟩

/- More laws of append: one element to a slice without room that need not be owned (always a new row), and many elements to an owned one. -/

theorem run_fresh {T e : TypeId} {z : Value} {size bytes : Nat} (ty : STy T e z size bytes) (rt : TypeId) (w : World) (A : Option Addr) (n : Nat) (olds : List Value) (hlo : olds.length = n * size) (hA : At w A olds) (h0 : A = none → n = 0)
    (a : Addr) (m c : Nat) (news : List Value) (hl : news.length = m * size) (hnews : ∀ j u, news[j]? = some u → w.cell? (a.add j) = some u) (hm : 0 < m) (hn : n + m ≤ 1000000) (hd : n ≠ 0 → ∃ ad, A = some ad) :
    ∃ (k' : Nat) (w' : World), (Builtin.append_ #[T, T] rt #[.slice A n n, .slice (some a) m c]).run Try.prog w = .ok (.slice (some ⟨w.heap.size, 0, none⟩) (n + m) k') w' ∧
      w'.ownsRow w.heap.size e size (.slice (some ⟨w.heap.size, 0, none⟩) (n + m) k') (n + m) (olds ++ news) ∧ Below w.heap.size w w' ∧ n + m ≤ k' ∧ k' ≤ 9223372036854775807 := by
  obtain ⟨i, hi, hz0, hz1, hz2⟩ := info_parts ty.inf
  subst hz1
  subst hz2
  have hlen : (olds ++ news).length = (n + m) * i.size := by rw [List.length_append, hlo, hl, Nat.add_mul]
  have hby := ty.hby
  have hbytes : (n + m) * i.bytes ≤ 140737488355328 := by
    calc (n + m) * i.bytes ≤ 1000000 * 100 := Nat.mul_le_mul hn hby
      _ ≤ _ := by decide
  have grown : ∀ (old : Nat), old < n + m →
      (w.drew.alloc (.cells (olds.toArray ++ news.toArray ++ Builtin.zeroCells z.cells (grownCap w (n + m) old e - (n + m))) e)).ownsRow w.heap.size e i.size
        (.slice (some ⟨w.heap.size, 0, none⟩) (n + m) (grownCap w (n + m) old e)) (n + m) (olds ++ news) ∧
      Below w.heap.size w (w.drew.alloc (.cells (olds.toArray ++ news.toArray ++ Builtin.zeroCells z.cells (grownCap w (n + m) old e - (n + m))) e)) ∧ n + m ≤ grownCap w (n + m) old e ∧ grownCap w (n + m) old e ≤ 9223372036854775807 := by
    intro old ho
    have hge := grownCap_ge w (n + m) old e
    have hcm : grownCap w (n + m) old e ≤ maxLen := grownCap_le_maxLen w (n + m) old e (by unfold maxLen; omega)
    refine ⟨⟨hlen, .inr ⟨w.heap.size, _, _, rfl, Nat.le_refl _, heap_alloc_new w.drew _, hge, hcm, ?_, ?_⟩⟩, ((Below.refl _ _).drew).alloc (by simp) _, hge, by unfold maxLen at hcm; omega⟩
    · simp only [Array.size_append, List.size_toArray, size_zeroCells, ty.hzs, hlo, hl, ← Nat.add_mul]
      rw [Nat.add_sub_cancel' hge]
    · simp only [Array.toList_append, List.append_assoc]
      rw [← List.append_assoc, ← hlen]
      exact List.take_left
  cases A with
  | none =>
    obtain rfl : n = 0 := h0 rfl
    have hx : olds = [] := List.eq_nil_of_length_eq_zero (by simpa using hlo)
    subst hx
    have hr := run_append_nil (P := Try.prog) w T rt e i z ty.ht hi hz0 a m c news hl hnews hm (by omega) (by have hb := hbytes; simp only [Nat.zero_add] at hb; omega)
    have hgr := grown 0 (by omega)
    simp only [Nat.zero_add, List.nil_append, Array.empty_append] at hgr ⊢
    exact ⟨_, _, hr, hgr⟩
  | some b =>
    have hr := run_append_grow (P := Try.prog) w T rt e i z ty.ht hi hz0 b n n olds hlo (At.some2 hA) a m c news hl hnews (by omega) (by omega) (growslice_fits (by omega) hbytes)
    exact ⟨_, _, hr, grown n (by omega)⟩

theorem wp_fresh {T e : TypeId} {z : Value} {size bytes : Nat} (ty : STy T e z size bytes) {o : Oper} {a : Act} {K : Act → World → Prop} {Q : Exit → Act → World → Prop} {w : World}
    (s x : Operand) (ho : o.op = .call { callee := .builtin .append, args := #[s, x], argTypes := #[T, T] })
    (A : Option Addr) (n : Nat) (olds : List Value) (hlo : olds.length = n * size) (hA : At w A olds) (h0 : A = none → n = 0) (hd : n ≠ 0 → ∃ ad, A = some ad)
    (ad : Addr) (m c : Nat) (news : List Value) (hl : news.length = m * size) (hnews : ∀ j u, news[j]? = some u → w.cell? (ad.add j) = some u)
    (hs : a.eval s = .slice A n n) (hx : a.eval x = .slice (some ad) m c) (hm : 0 < m) (hn : n + m ≤ 1000000)
    (h : ∀ (k' : Nat) (w' : World), w'.ownsRow w.heap.size e size (.slice (some ⟨w.heap.size, 0, none⟩) (n + m) k') (n + m) (olds ++ news) → Below w.heap.size w w' → n + m ≤ k' → k' ≤ 9223372036854775807 →
      K (a.put o.dst (.slice (some ⟨w.heap.size, 0, none⟩) (n + m) k')) w') : o.wp Try.prog a w K Q := by
  obtain ⟨k', w', hr, h2, h3, h4, h5⟩ := run_fresh ty o.type w A n olds hlo hA h0 ad m c news hl hnews hm hn hd
  unfold Oper.wp execOp
  simp only [ho, resolve, invoke, builtin, Sem.run_bind, Sem.run_pure, Result.andThen_ok, List.map_toArray, List.map_cons, List.map_nil, hs, hx, hr]
  exact h k' w' h2 h3 h4 h5

/-- Many elements to an owned slice. -/
theorem wp_appN {T e : TypeId} {z : Value} {size bytes : Nat} (ty : STy T e z size bytes) {o : Oper} {a : Act} {K : Act → World → Prop} {Q : Exit → Act → World → Prop} {w : World}
    (s x : Operand) (ho : o.op = .call { callee := .builtin .append, args := #[s, x], argTypes := #[T, T] })
    (base : Nat) (A : Option Addr) (n k : Nat) (xs : List Value)
    (hs : a.eval s = .slice A n k) (hown : w.ownsRow base e size (.slice A n k) n xs)
    (ad : Addr) (m c : Nat) (news : List Value) (hl : news.length = m * size) (hnews : ∀ j u, news[j]? = some u → w.cell? (ad.add j) = some u) (h1 : ∀ u ∈ news, u.oneCell' = true) (hx : a.eval x = .slice (some ad) m c)
    (hn : n + m ≤ 1000000) (hb : base ≤ w.heap.size)
    (h : ∀ (A' : Option Addr) (k' : Nat) (w' : World), w'.ownsRow base e size (.slice A' (n + m) k') (n + m) (xs ++ news) → w.grownBy w' (Value.slice A n k).ownBlock → Below base w w' → n + m ≤ k' → k' ≤ 9223372036854775807 →
      K (a.put o.dst (.slice A' (n + m) k')) w') : o.wp Try.prog a w K Q := by
  obtain ⟨i0, hi, hz0, hz1, hz2⟩ := info_parts ty.inf
  refine wp_append_own _ s x T ho base e i0 z size bytes ty.ht hi hz0 hz1 hz2 ty.hzs ty.hsz _ n xs hs hown ad m c news hx hl hnews h1 (by unfold maxLen; omega) ?_ hb ?_
  · have h2 := ty.hby
    calc (n + m) * bytes ≤ 1000000 * 100 := Nat.mul_le_mul (by omega) h2
      _ ≤ _ := by decide
  · intro v' w' hown' hg hv
    obtain ⟨A', k', rfl, hk, hk', _⟩ := own_form hown'
    refine h A' k' w' hown' hg ?_ hk hk'
    refine ⟨hg.os, hg.tape, hg.output, hg.size, fun b hb' => hg.block b (by omega) fun he => ?_⟩
    have := (hown.lt b he.symm).1
    omega

/- What a slice of slices of ints holds. -/

/-- One of the inner slices: it holds ints, and lies where the row that holds the slices cannot. -/
def Row1 (w : World) (b : Nat) (v : Value) (os : List Int) : Prop :=
  ∃ A c, v = .slice A os.length c ∧ os.length ≤ c ∧ c ≤ 9223372036854775807 ∧ Ints w A os ∧ ∀ ad, A = some ad → ad.block < b ∨ ∃ cs f, w.heap[ad.block]? = some (.cells cs 3 f)
def Rows (w : World) (b : Nat) (vs : List Value) (L : List (List Int)) : Prop :=
  vs.length = L.length ∧ ∀ (j : Nat) (os : List Int), L[j]? = some os → ∃ v, vs[j]? = some v ∧ Row1 w b v os

theorem Row1.below {w w' : World} {b : Nat} {v : Value} {os : List Int} (h : Row1 w b v os) (hb : Below w.heap.size w w') : Row1 w' b v os := by
  obtain ⟨A, c, hv, h1, h2, h3, h4⟩ := h
  refine ⟨A, c, hv, h1, h2, h3.below hb, fun ad hA => ?_⟩
  rcases h4 ad hA with h | ⟨cs, f, h⟩
  · exact .inl h
  · exact .inr ⟨cs, f, (hb.block _ (lt_of_block h)).trans h⟩
theorem Row1.mono {w : World} {b b' : Nat} {v : Value} {os : List Int} (h : Row1 w b v os) (hb : b ≤ b') : Row1 w b' v os := by
  obtain ⟨A, c, hv, h1, h2, h3, h4⟩ := h
  refine ⟨A, c, hv, h1, h2, h3, fun ad hA => ?_⟩
  rcases h4 ad hA with h | h
  · exact .inl (by omega)
  · exact .inr h
theorem Row1.of_own {w : World} {base n c : Nat} {A : Option Addr} {os : List Int} (h : w.ownsRow base 3 1 (.slice A n c) n (os.map (Value.int .i64))) (b : Nat) : Row1 w b (.slice A n c) os := by
  obtain ⟨A', c', he, h1, h2, _⟩ := own_form h
  injection he with e1 e2 e3
  subst e1; subst e3
  have hl : os.length = n := by have := h.1; simpa using this
  subst hl
  refine ⟨A, c, rfl, h1, h2, At.of_own h, fun ad hA => .inr ?_⟩
  rcases h.2 with ⟨h0, _⟩ | ⟨g, cap, cur, hv, _, hg, _⟩
  · rw [hA] at h0; cases h0
  · rw [hA] at hv
    injection hv with e1 _ _
    injection e1 with e1
    subst e1
    exact ⟨cur, _, hg⟩
theorem Row1.grown {w w' : World} {b base n : Nat} {v v' : Value} {os : List Int} {xs : List Value} (h : Row1 w b v os) (hown : w.ownsRow base 22 1 v' n xs) (hb : b ≤ base) (hg : w.grownBy w' v'.ownBlock) : Row1 w' b v os := by
  obtain ⟨A, c, hv, h1, h2, h3, h4⟩ := h
  have key : ∀ ad, A = some ad → (ad.block < b ∨ ∃ cs f, w.heap[ad.block]? = some (.cells cs 3 f)) → some ad.block ≠ v'.ownBlock := by
    intro ad hA hc he
    rcases hown.2 with ⟨h0, _⟩ | ⟨g, cap, cur, hv', hbg, hgg, _⟩
    · subst h0; cases he
    · subst hv'
      injection he with he
      rcases hc with hc | ⟨cs, f, hc⟩
      · have : ad.block = g := he
        omega
      · have : ad.block = g := he
        rw [this, hgg] at hc
        injection hc with hc
        injection hc with _ hc _
        exact absurd hc (by decide)
  refine ⟨A, c, hv, h1, h2, ?_, fun ad hA => ?_⟩
  · intro i u hu
    obtain ⟨ad, hA, hcell⟩ := h3 i u hu
    refine ⟨ad, hA, hg.cell hcell ?_⟩
    rw [add_block]
    exact key ad hA (h4 ad hA)
  · rcases h4 ad hA with h | ⟨cs, f, h⟩
    · exact .inl h
    · exact .inr ⟨cs, f, (hg.block _ (lt_of_block h) (key ad hA (h4 ad hA))).trans h⟩
theorem Row1.one {w : World} {b : Nat} {v : Value} {os : List Int} (h : Row1 w b v os) : v.oneCell' = true := by
  obtain ⟨A, c, rfl, _⟩ := h; rfl

section
variable {w w' : World} {b b' : Nat} {vs vs' : List Value} {L L' : List (List Int)}
theorem Rows.nil : Rows w b [] [] := ⟨rfl, fun j os h => by simp at h⟩
theorem Rows.below (h : Rows w b vs L) (hb : Below w.heap.size w w') : Rows w' b vs L :=
  ⟨h.1, fun j os hj => by obtain ⟨v, hv, hr⟩ := h.2 j os hj; exact ⟨v, hv, hr.below hb⟩⟩
theorem Rows.mono (h : Rows w b vs L) (hb : b ≤ b') : Rows w b' vs L :=
  ⟨h.1, fun j os hj => by obtain ⟨v, hv, hr⟩ := h.2 j os hj; exact ⟨v, hv, hr.mono hb⟩⟩
theorem Rows.grown {base n : Nat} {v' : Value} {xs : List Value} (h : Rows w b vs L) (hown : w.ownsRow base 22 1 v' n xs) (hb : b ≤ base) (hg : w.grownBy w' v'.ownBlock) : Rows w' b vs L :=
  ⟨h.1, fun j os hj => by obtain ⟨v, hv, hr⟩ := h.2 j os hj; exact ⟨v, hv, hr.grown hown hb hg⟩⟩
theorem Rows.append (h : Rows w b vs L) (h' : Rows w b vs' L') : Rows w b (vs ++ vs') (L ++ L') := by
  refine ⟨by rw [List.length_append, List.length_append, h.1, h'.1], fun j os hj => ?_⟩
  by_cases hlt : j < L.length
  · rw [List.getElem?_append_left hlt] at hj
    rw [List.getElem?_append_left (by rw [h.1]; exact hlt)]
    exact h.2 j os hj
  · rw [List.getElem?_append_right (by omega)] at hj
    rw [List.getElem?_append_right (by rw [h.1]; omega), h.1]
    exact h'.2 _ os hj
theorem Rows.one_ {v : Value} {os : List Int} (h : Row1 w b v os) : Rows w b [v] [os] :=
  ⟨rfl, fun j x hj => by cases j with
    | zero => simp at hj; subst hj; exact ⟨v, rfl, h⟩
    | succ j => simp at hj⟩
theorem Rows.one (h : Rows w b vs L) : ∀ u ∈ vs, u.oneCell' = true := by
  intro u hu
  obtain ⟨j, hj⟩ := List.getElem?_of_mem hu
  have hlt : j < L.length := by have := (List.getElem?_eq_some_iff.1 hj).1; have := h.1; omega
  obtain ⟨v, hv, hr⟩ := h.2 j _ (List.getElem?_eq_getElem hlt)
  rw [hj] at hv
  injection hv with hv
  subst hv
  exact hr.one
end


/- The laws of append of the text before, as laws of a walk. -/

theorem freshN {T e : TypeId} {z : Value} {size bytes : Nat} (ty : STy T e z size bytes) {ops : Array Oper} {rest : List Oper} {o : Oper} {a : Act} {Q : Exit → Act → World → Prop} {w : World}
    (hgd : o.guard = none) (s x : Operand) (ho : o.op = .call { callee := .builtin .append, args := #[s, x], argTypes := #[T, T] })
    (A : Option Addr) (n : Nat) (olds : List Value) (hlo : olds.length = n * size) (hA : At w A olds) (h0 : A = none → n = 0) (hd : n ≠ 0 → ∃ ad, A = some ad)
    (ad : Addr) (m c : Nat) (news : List Value) (hl : news.length = m * size) (hnews : ∀ j u, news[j]? = some u → w.cell? (ad.add j) = some u)
    (hs : a.eval s = .slice A n n) (hx : a.eval x = .slice (some ad) m c) (hm : 0 < m) (hn : n + m ≤ 1000000)
    (h : ∀ (k' : Nat) (w' : World), w'.ownsRow w.heap.size e size (.slice (some ⟨w.heap.size, 0, none⟩) (n + m) k') (n + m) (olds ++ news) → Below w.heap.size w w' → n + m ≤ k' → k' ≤ 9223372036854775807 →
      wpList Try.prog ops Q rest (a.put o.dst (.slice (some ⟨w.heap.size, 0, none⟩) (n + m) k')) w') : wpList Try.prog ops Q (o :: rest) a w :=
  wpList_plain hgd fun _ hK => wp_fresh ty s x ho A n olds hlo hA h0 hd ad m c news hl hnews hs hx hm hn fun k' w' a1 a2 a3 a4 => hK _ _ (h k' w' a1 a2 a3 a4)

/-- One element, whose block's number is spelled in some way. -/
theorem app1h {T e : TypeId} {z : Value} {size bytes : Nat} (ty : STy T e z size bytes) {ops : Array Oper} {rest : List Oper} {o : Oper} {a : Act} {Q : Exit → Act → World → Prop} {w : World}
    (hgd : o.guard = none) (s x : Operand) (ho : o.op = .call { callee := .builtin .append, args := #[s, x], argTypes := #[T, T] })
    (base : Nat) (A : Option Addr) (n k : Nat) (xs : List Value) (cs : Array Value) (hcs : cs.size = size) (h1 : ∀ u ∈ cs.toList, u.oneCell' = true)
    (hs : a.eval s = .slice A n k) (hown : w.ownsRow base e size (.slice A n k) n xs) (g : Nat) (hx : a.eval x = .slice (some ⟨g, 0, none⟩) 1 1) (hg : g = w.heap.size)
    (hn : n ≤ 1000000) (hb : base ≤ w.heap.size)
    (h : ∀ (A' : Option Addr) (k' : Nat) (w' : World), w'.ownsRow base e size (.slice A' (n + 1) k') (n + 1) (xs ++ cs.toList) → w.grownBy w' (Value.slice A n k).ownBlock → Below base w w' → n + 1 ≤ k' → k' ≤ 9223372036854775807 →
      wpList Try.prog ops Q rest (a.put o.dst (.slice A' (n + 1) k')) w') : wpList Try.prog ops Q (o :: rest) a (w.alloc (.cells cs e)) := by
  subst hg
  exact app1 ty hgd s x ho base A n k xs cs hcs h1 hs hown hx hn hb h
/-- Any elements, also none of nil, to an owned slice. -/
theorem appN {T e : TypeId} {z : Value} {size bytes : Nat} (ty : STy T e z size bytes) {ops : Array Oper} {rest : List Oper} {o : Oper} {a : Act} {Q : Exit → Act → World → Prop} {w : World}
    (hgd : o.guard = none) (s x : Operand) (ho : o.op = .call { callee := .builtin .append, args := #[s, x], argTypes := #[T, T] })
    (base : Nat) (A : Option Addr) (n k : Nat) (xs : List Value)
    (hs : a.eval s = .slice A n k) (hown : w.ownsRow base e size (.slice A n k) n xs)
    (B : Option Addr) (m c : Nat) (news : List Value) (hB : B = none → m = 0 ∧ c = 0) (hl : news.length = m * size) (hnews : At w B news) (h1 : ∀ u ∈ news, u.oneCell' = true) (hx : a.eval x = .slice B m c)
    (hn : n + m ≤ 1000000) (hb : base ≤ w.heap.size)
    (h : ∀ (A' : Option Addr) (k' : Nat) (w' : World), w'.ownsRow base e size (.slice A' (n + m) k') (n + m) (xs ++ news) → w.grownBy w' (Value.slice A n k).ownBlock → Below base w w' → n + m ≤ k' → k' ≤ 9223372036854775807 →
      wpList Try.prog ops Q rest (a.put o.dst (.slice A' (n + m) k')) w') : wpList Try.prog ops Q (o :: rest) a w := by
  cases B with
  | none =>
    obtain ⟨rfl, rfl⟩ := hB rfl
    obtain rfl : news = [] := List.eq_nil_of_length_eq_zero (by simpa using hl)
    obtain ⟨i0, hi, _, hz1, _⟩ := info_parts ty.inf
    subst hz1
    refine wpList_append_own_none hgd s x T ho base e i0 i0.size ty.ht hi (.slice A n k) n xs hs (by simpa using hown) hx ?_
    obtain ⟨_, _, he, h3, h4, _⟩ := own_form hown
    injection he with _ _ he
    subst he
    exact h A k w (by simpa using hown) ⟨rfl, rfl, rfl, Nat.le_refl _, fun _ _ _ => rfl⟩ (Below.refl _ _) (by omega) h4
  | some ad => exact wpList_plain hgd fun _ hK => wp_appN ty s x ho base A n k xs hs hown ad m c news hl (At.some2 hnews) h1 hx hn hb fun A' k' w' a1 a2 a3 a4 a5 => hK _ _ (h A' k' w' a1 a2 a3 a4 a5)

/- Where a slice lies after append: where it lay, or in new memory. -/

/-- The first lies where the second lies, or in new memory. -/
def Stay (w : World) (v' v : Value) : Prop := ∀ ad' n' k', v' = .slice (some ad') n' k' → (∃ n k, v = .slice (some ad') n k) ∨ w.heap.size ≤ ad'.block

theorem run_where {T e : TypeId} {z : Value} {size bytes : Nat} (ty : STy T e z size bytes) (rt : TypeId) {w w' : World} {base : Nat} {v v' : Value} {n : Nat} {xs : List Value} (hown : w.ownsRow base e size v n xs)
    {a : Addr} {m c : Nat} {news : List Value} (hl : news.length = m * size) (hnews : ∀ j u, news[j]? = some u → w.cell? (a.add j) = some u) (h1 : ∀ u ∈ news, u.oneCell' = true)
    (hn : n + m ≤ 1000000) (hr : (Builtin.append_ #[T, T] rt #[v, .slice (some a) m c]).run Try.prog w = .ok v' w') (hm : 0 < m) : Stay w v' v := by
  obtain ⟨i0, hi, hz0, hz1, hz2⟩ := info_parts ty.inf
  have hb : (n + m) * i0.bytes ≤ 140737488355328 := by
    have h2 := ty.hby
    rw [hz2]
    calc (n + m) * bytes ≤ 1000000 * 100 := Nat.mul_le_mul (by omega) h2
      _ ≤ _ := by decide
  have hb2 : m * i0.bytes ≤ 281474976710656 := Nat.le_trans (Nat.mul_le_mul_right _ (by omega)) (Nat.le_trans hb (by decide))
  intro ad' n' k' he
  rcases hown.2 with ⟨rfl, rfl⟩ | ⟨g, cap, cur, rfl, hbg, hg, hnc, hcm, hcs, htake⟩
  · have h := run_append_nil (P := Try.prog) w T rt e i0 z ty.ht hi hz0 a m c news (by rw [hz1]; exact hl) hnews hm (by omega) hb2
    rw [h] at hr
    injection hr with hr _
    rw [← hr] at he
    injection he with he
    injection he with he
    exact .inr (by rw [← he]; exact Nat.le_refl _)
  · by_cases hroom : n + m ≤ cap
    · have hfit : n * i0.size + news.length ≤ cur.size := by rw [hz1, hl, hcs, ← Nat.add_mul]; exact Nat.mul_le_mul_right _ hroom
      have h := run_append_room (P := Try.prog) w T rt e i0 ty.ht hi g n cap cur hg a m c news (by rw [hz1]; exact hl) hnews h1 hroom hfit
      rw [h] at hr
      injection hr with hr _
      rw [← hr] at he
      injection he with he
      exact .inl ⟨n, cap, by rw [he]⟩
    · have holds : ∀ j u, xs[j]? = some u → w.cell? ((⟨g, 0, none⟩ : Addr).add j) = some u := hown.cells (g := g) rfl
      have h := run_append_grow (P := Try.prog) w T rt e i0 z ty.ht hi hz0 ⟨g, 0, none⟩ n cap xs (by rw [hz1]; exact hown.1) holds a m c news (by rw [hz1]; exact hl) hnews (by omega) (by omega) (growslice_fits (by omega) hb)
      rw [h] at hr
      injection hr with hr _
      rw [← hr] at he
      injection he with he
      injection he with he
      exact .inr (by rw [← he]; exact Nat.le_refl _)

theorem wp_app1w {T e : TypeId} {z : Value} {bytes : Nat} (ty : STy T e z 1 bytes) {o : Oper} {a : Act} {K : Act → World → Prop} {Q : Exit → Act → World → Prop} {w : World}
    (s x : Operand) (ho : o.op = .call { callee := .builtin .append, args := #[s, x], argTypes := #[T, T] })
    (base : Nat) (A : Option Addr) (n k : Nat) (xs : List Value) (u : Value) (h1 : u.oneCell' = true)
    (hs : a.eval s = .slice A n k) (hown : w.ownsRow base e 1 (.slice A n k) n xs) (g : Nat) (hx : a.eval x = .slice (some ⟨g, 0, none⟩) 1 1) (hg : g = w.heap.size)
    (hn : n ≤ 100000) (hb : base ≤ w.heap.size)
    (h : ∀ (A' : Option Addr) (k' : Nat) (w' : World), w'.ownsRow base e 1 (.slice A' (n + 1) k') (n + 1) (xs ++ [u]) → w.grownBy w' (Value.slice A n k).ownBlock → Below base w w' → n + 1 ≤ k' → k' ≤ 9223372036854775807 → Stay w (.slice A' (n + 1) k') (.slice A n k) →
      K (a.put o.dst (.slice A' (n + 1) k')) w') : o.wp Try.prog a (w.alloc (.cells #[u] e)) K Q := by
  subst hg
  obtain ⟨i0, hi, hz0, hz1, hz2⟩ := info_parts ty.inf
  have hnews : ∀ j x, [u][j]? = some x → (w.alloc (.cells #[u] e)).cell? ((⟨w.heap.size, 0, none⟩ : Addr).add j) = some x := by
    intro j x hx
    exact (At.some2 (Blk.new w e #[u] rfl).at_) j x hx
  have hbytes : (n + 1) * bytes ≤ 140737488355328 := by
    have h2 := ty.hby
    calc (n + 1) * bytes ≤ 1000000 * 100 := Nat.mul_le_mul (by omega) h2
      _ ≤ _ := by decide
  have hone : ∀ x ∈ [u], x.oneCell' = true := by intro x hx; rw [List.mem_singleton.1 hx]; exact h1
  obtain ⟨v', w', hr, hown', hg, _⟩ := run_append_own (P := Try.prog) (w.alloc (.cells #[u] e)) base T o.type e i0 z 1 bytes ty.ht hi hz0 hz1 hz2 ty.hzs ty.hsz (.slice A n k) n xs (hown.alloc _)
    ⟨w.heap.size, 0, none⟩ 1 1 [u] rfl hnews hone (by unfold maxLen; omega) hbytes (by go_size)
  have hst := run_where ty o.type (hown.alloc _) (m := 1) rfl hnews hone (by omega) hr (by omega)
  unfold Oper.wp execOp
  simp only [ho, resolve, invoke, builtin, Sem.run_bind, Sem.run_pure, Result.andThen_ok, List.map_toArray, List.map_cons, List.map_nil, hs, hx, hr]
  obtain ⟨A', k', rfl, hk, hk', _⟩ := own_form hown'
  have hg' : w.grownBy w' (Value.slice A n k).ownBlock :=
    ⟨hg.os, hg.tape, hg.output, Nat.le_trans (by simp) hg.size, fun b hb hne => (hg.block b (Nat.lt_of_lt_of_le hb (by simp)) hne).trans (Below.heap_alloc w _ b hb)⟩
  refine h A' k' w' hown' hg' ?_ hk hk' ?_
  · refine ⟨hg'.os, hg'.tape, hg'.output, hg'.size, fun b hb' => hg'.block b (by omega) fun he => ?_⟩
    have := (hown.lt b he.symm).1
    omega
  · intro ad' n' k'' he
    rcases hst ad' n' k'' he with h | h
    · exact .inl h
    · exact .inr (Nat.le_trans (by simp) h)

theorem app1w {T e : TypeId} {z : Value} {bytes : Nat} (ty : STy T e z 1 bytes) {ops : Array Oper} {rest : List Oper} {o : Oper} {a : Act} {Q : Exit → Act → World → Prop} {w : World}
    (hgd : o.guard = none) (s x : Operand) (ho : o.op = .call { callee := .builtin .append, args := #[s, x], argTypes := #[T, T] })
    (base : Nat) (A : Option Addr) (n k : Nat) (xs : List Value) (u : Value) (h1 : u.oneCell' = true)
    (hs : a.eval s = .slice A n k) (hown : w.ownsRow base e 1 (.slice A n k) n xs) (g : Nat) (hx : a.eval x = .slice (some ⟨g, 0, none⟩) 1 1) (hg : g = w.heap.size)
    (hn : n ≤ 100000) (hb : base ≤ w.heap.size)
    (h : ∀ (A' : Option Addr) (k' : Nat) (w' : World), w'.ownsRow base e 1 (.slice A' (n + 1) k') (n + 1) (xs ++ [u]) → w.grownBy w' (Value.slice A n k).ownBlock → Below base w w' → n + 1 ≤ k' → k' ≤ 9223372036854775807 → Stay w (.slice A' (n + 1) k') (.slice A n k) →
      wpList Try.prog ops Q rest (a.put o.dst (.slice A' (n + 1) k')) w') : wpList Try.prog ops Q (o :: rest) a (w.alloc (.cells #[u] e)) :=
  wpList_plain hgd fun _ hK => wp_app1w ty s x ho base A n k xs u h1 hs hown g hx hg hn hb fun A' k' w' a1 a2 a3 a4 a5 a6 => hK _ _ (h A' k' w' a1 a2 a3 a4 a5 a6)

/- What a component's search holds in memory. -/

def ncells (l : List Nd) : List Value := l.flatMap fun x => [.bool x.1, .int .i64 (x.2 : Int)]
theorem ncells_snoc (l : List Nd) (x : Nd) : ncells (l ++ [x]) = ncells l ++ [.bool x.1, .int .i64 (x.2 : Int)] := by simp [ncells]
theorem ncells_length (l : List Nd) : (ncells l).length = l.length * 2 := by
  induction l with
  | nil => rfl
  | cons p ps ih => simp only [ncells, List.flatMap_cons, List.length_append, List.length_cons, List.length_nil] at ih ⊢; omega
theorem ncells_at : ∀ (l : List Nd) (k : Nat) (x : Nd), l[k]? = some x → (ncells l)[k * 2]? = some (.bool x.1) ∧ (ncells l)[k * 2 + 1]? = some (.int .i64 (x.2 : Int))
  | [], k, x, h => by simp at h
  | y :: l, 0, x, h => by simp at h; subst h; simp [ncells]
  | y :: l, k + 1, x, h => by
    have := ncells_at l k x (by simpa using h)
    have e1 : (k + 1) * 2 = k * 2 + 1 + 1 := by omega
    rw [e1]
    simpa [ncells] using this
theorem info_node : (Try.prog.info? 78).map (fun i => (i.zero, i.size, i.bytes)) = some (some (.agg #[.bool false, .int .i64 0]), 2, 16) := by kernel_rfl
theorem sty_nodes : STy 83 78 (.agg #[.bool false, .int .i64 0]) 2 16 := ⟨Try.underlying83, info_node, rfl, by decide, by decide⟩
theorem zero_bool (w : World) : (zeroValue 4).run Try.prog w = .ok (.bool false) w := by kernel_rfl
theorem zero_node (w : World) : (zeroValue 78).run Try.prog w = .ok (.agg #[.bool false, .int .i64 0]) w := by kernel_rfl
theorem zero_mfrac (w : World) : (zeroValue 49).run Try.prog w = .ok (.agg #[.int .i64 0, .int .i64 0]) w := by kernel_rfl
theorem run_eq_node (a b : Bool) (i j : Nat) (w : World) : (binOp .eql 78 (.agg #[.bool a, .int .i64 (i : Int)]) (.agg #[.bool b, .int .i64 (j : Int)])).run Try.prog w = .ok (.bool (decide ((a, i) = (b, j)))) w := by
  have e0 : decide ((a, i) = (b, j)) = (decide (a = b) && decide ((i : Int) = (j : Int))) := by
    rw [Bool.eq_iff_iff]
    simp only [decide_eq_true_eq, Bool.and_eq_true, Prod.mk.injEq]
    constructor <;> rintro ⟨h1, h2⟩ <;> exact ⟨h1, by omega⟩
  rw [e0]
  by_cases h1 : a = b
  · by_cases h2 : (i : Int) = (j : Int)
    · simp only [h1, h2]; go_simp
    · simp only [h1]; go_simp
  · go_simp
/-- One element more, and where the slice lies then: for elements of several cells. -/
theorem app1s {T e : TypeId} {z : Value} {size bytes : Nat} (ty : STy T e z size bytes) {ops : Array Oper} {rest : List Oper} {o : Oper} {a : Act} {Q : Exit → Act → World → Prop} {w : World}
    (hgd : o.guard = none) (s x : Operand) (ho : o.op = .call { callee := .builtin .append, args := #[s, x], argTypes := #[T, T] })
    (base : Nat) (A : Option Addr) (n k : Nat) (xs : List Value) (cs : Array Value) (hcs : cs.size = size) (h1 : ∀ u ∈ cs.toList, u.oneCell' = true)
    (hs : a.eval s = .slice A n k) (hown : w.ownsRow base e size (.slice A n k) n xs) (g : Nat) (hx : a.eval x = .slice (some ⟨g, 0, none⟩) 1 1) (hg : g = w.heap.size)
    (hn : n ≤ 100000) (hb : base ≤ w.heap.size)
    (h : ∀ (A' : Option Addr) (k' : Nat) (w' : World), w'.ownsRow base e size (.slice A' (n + 1) k') (n + 1) (xs ++ cs.toList) → w.grownBy w' (Value.slice A n k).ownBlock → Below base w w' → n + 1 ≤ k' → k' ≤ 9223372036854775807 → Stay w (.slice A' (n + 1) k') (.slice A n k) →
      wpList Try.prog ops Q rest (a.put o.dst (.slice A' (n + 1) k')) w') : wpList Try.prog ops Q (o :: rest) a (w.alloc (.cells cs e)) := by
  subst hg
  refine wpList_plain hgd fun _ hK => ?_
  obtain ⟨i0, hi, hz0, hz1, hz2⟩ := info_parts ty.inf
  have hnews : ∀ j x, cs.toList[j]? = some x → (w.alloc (.cells cs e)).cell? ((⟨w.heap.size, 0, none⟩ : Addr).add j) = some x := by
    intro j x hx
    exact (At.some2 (Blk.new w e cs rfl).at_) j x hx
  have hbytes : (n + 1) * bytes ≤ 140737488355328 := by
    have h2 := ty.hby
    calc (n + 1) * bytes ≤ 1000000 * 100 := Nat.mul_le_mul (by omega) h2
      _ ≤ _ := by decide
  obtain ⟨v', w', hr, hown', hg, _⟩ := run_append_own (P := Try.prog) (w.alloc (.cells cs e)) base T o.type e i0 z size bytes ty.ht hi hz0 hz1 hz2 ty.hzs ty.hsz (.slice A n k) n xs (hown.alloc _)
    ⟨w.heap.size, 0, none⟩ 1 1 cs.toList (by simpa using hcs) hnews h1 (by unfold maxLen; omega) hbytes (by go_size)
  have hst := run_where ty o.type (hown.alloc _) (m := 1) (by simpa using hcs) hnews h1 (by omega) hr (by omega)
  unfold Oper.wp execOp
  simp only [ho, resolve, invoke, builtin, Sem.run_bind, Sem.run_pure, Result.andThen_ok, List.map_toArray, List.map_cons, List.map_nil, hs, hx, hr]
  obtain ⟨A', k', rfl, hk, hk', _⟩ := own_form hown'
  have hg' : w.grownBy w' (Value.slice A n k).ownBlock :=
    ⟨hg.os, hg.tape, hg.output, Nat.le_trans (by simp) hg.size, fun b hb hne => (hg.block b (Nat.lt_of_lt_of_le hb (by simp)) hne).trans (Below.heap_alloc w _ b hb)⟩
  refine hK _ _ (h A' k' w' hown' hg' ?_ hk hk' ?_)
  · refine ⟨hg'.os, hg'.tape, hg'.output, hg'.size, fun b hb' => hg'.block b (by omega) fun he => ?_⟩
    have := (hown.lt b he.symm).1
    omega
  · intro ad' n' k'' he
    rcases hst ad' n' k'' he with h | h
    · exact .inl h
    · exact .inr (Nat.le_trans (by simp) h)
/-- What a component is given: the market, and below it the balance that is to be made. -/
structure CompIn (w0 w : World) (A : Option Addr) (n : Nat) (U : Option Addr) (k : Nat) (B : List Int) (V : List (List Int)) (bb PB dm N0 : Nat) (don : Nd → Bool) (pq : Nat → Rat) : Prop where
  mkt : MktAt w0 A n U n B V
  hn : 1 ≤ n ∧ n ≤ 3
  hk : 1 ≤ k ∧ k ≤ 3
  hg : goodsN V = k
  rows : ∀ r ∈ V, rowOk k r = true
  buds : ∀ b ∈ B, 1 ≤ b ∧ b ≤ 20
  bel : Below w0.heap.size w0 w
  p0 : w0.heap.size ≤ PB
  d0 : w0.heap.size ≤ dm
  blt : bb < w.heap.size
  bd : bb ≠ dm
  bp : bb ≠ PB
  dp : dm ≠ PB
  bal : w.cell? ⟨bb, 0, none⟩ = some (.slice (some ⟨PB, 0, none⟩) k k)
  pri : PrB w PB 49 (psOf k don pq)
  donm : MapN w dm N0 (.bool false) (fun x => .bool (don x))
  hN : N0 ≤ 100
structure CMem (w wr : World) (mk : Array Value) (tb pm dm PB N0 k : Nat) (A2 : Option Addr) (c2 : Nat) (st : CSt) (j : Nat) : Prop where
  mkb : Blk wr w.heap.size 28 mk
  own : wr.ownsRow w.heap.size 78 2 (.slice A2 st.ord.length c2) st.ord.length (ncells st.ord)
  ne : ∀ ad, A2 = some ad → ad.block ≠ w.heap.size ∧ ad.block ≠ tb ∧ ad.block ≠ pm
  tot : PrB wr tb 49 [pr (totOf st.pq (st.ord.take j))]
  parm : MapN wr pm st.ord.length (.agg #[.bool false, .int .i64 0]) (fun x => nodeV (st.par x))
  donm : MapN wr dm (N0 + st.ord.length) (.bool false) (fun x => .bool (st.don x))
  pri : PrB wr PB 49 (psOf k st.don st.pq)
  kept : Kept w.heap.size [dm, PB] w wr
theorem CMem.below {w wr wr' : World} {mk : Array Value} {tb pm dm PB N0 k : Nat} {A2 : Option Addr} {c2 : Nat} {st : CSt} {j : Nat} (h : CMem w wr mk tb pm dm PB N0 k A2 c2 st j) (hb : Below wr.heap.size wr wr') : CMem w wr' mk tb pm dm PB N0 k A2 c2 st j where
  mkb := h.mkb.below hb h.mkb.lt
  own := own_below h.own hb
  ne := h.ne
  tot := h.tot.below hb h.tot.lt
  parm := h.parm.kept (hb.block _ h.parm.lt)
  donm := h.donm.kept (hb.block _ h.donm.lt)
  pri := h.pri.below hb h.pri.lt
  kept := h.kept.trans (Kept.of_below (hb.mono h.kept.size) _)
theorem budOf_bd {B : List Int} (h : ∀ b ∈ B, 1 ≤ b ∧ b ≤ 20) : ∀ l : List Nd, 0 ≤ budOf B l ∧ budOf B l ≤ 20 * l.length
  | [] => ⟨Int.le_refl _, by simp [budOf]⟩
  | x :: l => by
    have ih := budOf_bd h l
    have hx : 0 ≤ B.getD x.2 0 ∧ B.getD x.2 0 ≤ 20 := by
      rw [List.getD_eq_getElem?_getD]
      cases hb : B[x.2]? with
      | none => exact ⟨Int.le_refl _, by decide⟩
      | some b => have := h b (List.mem_of_getElem? hb); simp; omega
    simp only [budOf, List.length_cons]
    split <;> omega
theorem MapN.far {w : World} {b n : Nat} {z : Value} {f : Nd → Value} (h : MapN w b n z f) {p : Addr} (hp : b ≠ p.block) (u : Value) : MapN (w.setCell p u) b n z f := h.kept (Below.heap_setCell w p u b hp)
theorem own_far {w : World} {base e size n c : Nat} {A : Option Addr} {xs : List Value} (h : w.ownsRow base e size (.slice A n c) n xs) {p : Addr} (hp : ∀ ad, A = some ad → ad.block ≠ p.block) (u : Value) : (w.setCell p u).ownsRow base e size (.slice A n c) n xs := by
  obtain ⟨h1, h2⟩ := h
  refine ⟨h1, ?_⟩
  rcases h2 with h2 | ⟨g, cap, cur, hv, a1, a2, a3⟩
  · exact .inl h2
  · have hA : A = some ⟨g, 0, none⟩ := by injection hv
    exact .inr ⟨g, cap, cur, hv, a1, (Below.heap_setCell w p u g (hp _ hA)).trans a2, a3⟩
theorem own_same {w w' : World} {base e size n c : Nat} {A : Option Addr} {xs : List Value} (h : w.ownsRow base e size (.slice A n c) n xs) (hp : ∀ ad, A = some ad → ad.block < w.heap.size → w'.heap[ad.block]? = w.heap[ad.block]?) : w'.ownsRow base e size (.slice A n c) n xs := by
  obtain ⟨h1, h2⟩ := h
  refine ⟨h1, ?_⟩
  rcases h2 with h2 | ⟨g, cap, cur, hv, a1, a2, a3⟩
  · exact .inl h2
  · have hA : A = some ⟨g, 0, none⟩ := by injection hv
    exact .inr ⟨g, cap, cur, hv, a1, (hp _ hA (lt_of_block a2)).trans a2, a3⟩
theorem useN_bd {k : Nat} {V : List (List Int)} (h : ∀ r ∈ V, rowOk k r = true) (i g : Nat) : 0 ≤ useN V i g ∧ useN V i g ≤ 20 := by
  unfold useN
  by_cases hi : i < V.length
  · exact rowOk_getD (h _ (List.mem_of_getElem? (rowV_some hi))) g
  · unfold rowV
    rw [List.getD_eq_getElem?_getD (l := V), List.getElem?_eq_none (by omega)]
    simp
/-- The sum is written. -/
theorem CMem.total {w wr : World} {mk : Array Value} {tb pm dm PB N0 k : Nat} {A2 : Option Addr} {c2 : Nat} {st : CSt} {j j' : Nat} (h : CMem w wr mk tb pm dm PB N0 k A2 c2 st j)
    (d0 : w.heap.size ≠ tb) (d1 : pm ≠ tb) (d2 : dm ≠ tb) (d3 : PB ≠ tb) (d4 : w.heap.size ≤ tb) (q : Rat) (hq : q = totOf st.pq (st.ord.take j')) :
    CMem w ((wr.setCell ⟨tb, 0, none⟩ (.int .i64 q.num)).setCell ⟨tb, 1, none⟩ (.int .i64 (q.den : Int))) mk tb pm dm PB N0 k A2 c2 st j' where
  mkb := (h.mkb.far d0 _).far d0 _
  own := own_far (own_far h.own (fun ad he => (h.ne ad he).2.1) _) (fun ad he => (h.ne ad he).2.1) _
  ne := h.ne
  tot := by
    have h1 := h.tot.set_ 0 q.num q.den
    rw [← hq]
    exact h1
  parm := (h.parm.far d1 _).far d1 _
  donm := (h.donm.far d2 _).far d2 _
  pri := (Blk.far h.pri d3 _).far d3 _
  kept := (h.kept.setCell (.inr d4) _).setCell (.inr d4) _
/-- The next node is marked as done, and where it is come from. -/
theorem CMem.mark {w wr : World} {mk : Array Value} {tb pm dm PB N0 k : Nat} {A2 : Option Addr} {c2 : Nat} {st : CSt} {j : Nat} (h : CMem w wr mk tb pm dm PB N0 k A2 c2 st j) (hpd : pm ≠ dm) (hN : N0 ≤ 100) (hl : st.ord.length ≤ 6)
    (nb : Bool) (y : Nat) (hy : y < 3) (x : Nd) :
    ∃ w1 w2, (Instr.mapUpdate 76 (.map (some dm)) (.agg #[.bool nb, .int .i64 (y : Int)]) (.bool true)).run Try.prog wr = .ok () w1 ∧ (Instr.mapUpdate 84 (.map (some pm)) (.agg #[.bool nb, .int .i64 (y : Int)]) (.agg #[.bool x.1, .int .i64 (x.2 : Int)])).run Try.prog w1 = .ok () w2 ∧
      Kept wr.heap.size [dm] wr w1 ∧ Kept wr.heap.size [dm, pm] wr w2 ∧ MapN w2 pm (st.ord.length + 1) (.agg #[.bool false, .int .i64 0]) (fun z => nodeV (upd st.par (nb, y) x z)) ∧ MapN w2 dm (N0 + (st.ord.length + 1)) (.bool false) (fun z => .bool (upd st.don (nb, y) true z)) := by
  obtain ⟨w1, r1, d1, g1⟩ := h.donm.store (t := 76) Try.underlying76 (c := nb) hy (.bool true) (by omega)
  have p1 := h.parm.kept (g1.block _ h.parm.lt (by intro e; injection e with e; exact hpd e))
  obtain ⟨w2, r2, p2, g2⟩ := p1.store (t := 84) Try.underlying84 (c := nb) hy (.agg #[.bool x.1, .int .i64 (x.2 : Int)]) (by omega)
  have k1 : Kept wr.heap.size [dm] wr w1 := (Kept.refl _ _ _).grown g1 (Nat.le_refl _) (fun q hq => by injection hq with hq; exact .inl (by rw [← hq]; simp))
  have k2 : Kept wr.heap.size [dm, pm] wr w2 := (k1.mono (Nat.le_refl _) (fun z hz => by simp at hz; simp [hz])).grown g2 k1.size (fun q hq => by injection hq with hq; exact .inl (by rw [← hq]; simp))
  refine ⟨w1, w2, r1, r2, k1, k2, ?_, ?_⟩
  · have e : (fun z => nodeV (upd st.par (nb, y) x z)) = fun z => if z = (nb, y) then Value.agg #[.bool x.1, .int .i64 (x.2 : Int)] else nodeV (st.par z) := by
      funext z
      unfold upd
      split <;> rfl
    rw [e]; exact p2
  · have e : (fun z => Value.bool (upd st.don (nb, y) true z)) = fun z => if z = (nb, y) then Value.bool true else Value.bool (st.don z) := by
      funext z
      unfold upd
      split <;> rfl
    rw [e, ← Nat.add_assoc]
    exact d1.kept (g2.block _ d1.lt (by intro e; injection e with e; exact hpd e.symm))
/-- The order has grown by it. -/
theorem CMem.grow {w wr w2 w4 : World} {mk : Array Value} {tb pm dm PB N0 k : Nat} {A2 A4 : Option Addr} {c2 c4 : Nat} {st : CSt} {j : Nat} (h : CMem w wr mk tb pm dm PB N0 k A2 c2 st j) (_ : pm ≠ dm) (k2 : Kept wr.heap.size [dm, pm] wr w2)
    (hdw : dm < w.heap.size) (hpw : PB < w.heap.size) (htb : w.heap.size < tb) (hpm : w.heap.size < pm) (htp : tb ≠ pm) (hpp : PB ≠ pm) (hdp : dm ≠ PB) {nx x : Nd}
    (p2 : MapN w2 pm (st.ord.length + 1) (.agg #[.bool false, .int .i64 0]) (fun z => nodeV (upd st.par nx x z))) (d2 : MapN w2 dm (N0 + (st.ord.length + 1)) (.bool false) (fun z => .bool (upd st.don nx true z)))
    (hown : w4.ownsRow w.heap.size 78 2 (.slice A4 (st.ord.length + 1) c4) (st.ord.length + 1) (ncells st.ord ++ [.bool nx.1, .int .i64 (nx.2 : Int)])) (hg : w2.grownBy w4 (Value.slice A2 st.ord.length c2).ownBlock) (hst : Stay w2 (.slice A4 (st.ord.length + 1) c4) (.slice A2 st.ord.length c2)) (hlo : 0 < st.ord.length) :
    (∀ g t cs, Blk wr g t cs → g ≠ dm → g ≠ pm → (∀ ad, A2 = some ad → ad.block ≠ g) → Blk w4 g t cs) ∧ (∀ g, g < wr.heap.size → (∀ ad, A2 = some ad → ad.block ≠ g) → ∀ ad, A4 = some ad → ad.block ≠ g) ∧ ∀ pq' : Nat → Rat, totOf pq' ((st.ord ++ [nx]).take j) = totOf st.pq (st.ord.take j) → PrB w4 PB 49 (psOf k st.don st.pq) ∧ (∀ w5, (∀ g, g < w4.heap.size → g ≠ PB → w5.heap[g]? = w4.heap[g]?) → PrB w5 PB 49 (psOf k (upd st.don nx true) pq') → Kept w.heap.size [dm, PB] w w5 → CMem w w5 mk tb pm dm PB N0 k A4 c4 { ord := st.ord ++ [nx], par := upd st.par nx x, don := upd st.don nx true, pq := pq' } j) := by
  have hnb : ∀ g, (∀ ad, A2 = some ad → ad.block ≠ g) → some g ≠ (Value.slice A2 st.ord.length c2).ownBlock := by
    intro g hh
    cases A2 with
    | none => intro e; cases e
    | some ad => intro e; injection e with e; exact hh ad rfl e.symm
  obtain ⟨go, hA2, hgo, hgo2, _⟩ : ∃ go, A2 = some ⟨go, 0, none⟩ ∧ w.heap.size ≤ go ∧ go < wr.heap.size ∧ True := by
    rcases h.own.2 with ⟨_, e⟩ | ⟨g, cap, cur, hv, h1, h2, _⟩
    · omega
    · injection hv with e1
      exact ⟨g, e1, h1, lt_of_block h2, trivial⟩
  have hblk : ∀ g t cs, Blk wr g t cs → g ≠ dm → g ≠ pm → (∀ ad, A2 = some ad → ad.block ≠ g) → Blk w4 g t cs := fun g t cs hb h1 h2 h3 => (hb.kept k2 hb.lt (by simp; omega)).grown hg (hnb g h3)
  have hA4 : ∀ g, g < wr.heap.size → (∀ ad, A2 = some ad → ad.block ≠ g) → ∀ ad, A4 = some ad → ad.block ≠ g := by
    intro g hg1 hh ad he
    subst he
    rcases hst ad _ _ rfl with ⟨m, q, e⟩ | hge
    · injection e with e
      exact hh ad e
    · have := k2.size; omega
  have hne := h.ne
  refine ⟨hblk, hA4, fun pq' htot => ⟨hblk _ _ _ h.pri hdp.symm hpp (by intro ad he; rw [hA2] at he; injection he with he; rw [← he]; simp; omega), fun w5 hw5 hP hK => ?_⟩⟩
  have hdA : ∀ ad, A2 = some ad → ad.block ≠ dm := by intro ad he; rw [hA2] at he; injection he with he; rw [← he]; simp; omega
  have hpA : ∀ ad, A4 = some ad → ad.block ≠ PB := hA4 PB h.pri.lt (by intro ad he; rw [hA2] at he; injection he with he; rw [← he]; simp; omega)
  refine ⟨?_, ?_, ?_, ?_, ?_, ?_, hP, hK⟩
  · have hb := hblk _ _ _ h.mkb (by omega) (by omega) (fun ad he => (hne ad he).1)
    exact (hw5 _ hb.lt (by omega)).trans hb
  · rw [show (st.ord ++ [nx]).length = st.ord.length + 1 by simp, ncells_snoc]
    obtain ⟨o1, o2⟩ := hown
    refine ⟨o1, ?_⟩
    rcases o2 with o2 | ⟨g, cap, cur, hv, a1, a2, a3⟩
    · exact .inl o2
    · have : g ≠ PB := by
        injection hv with e1
        exact hpA _ e1
      exact .inr ⟨g, cap, cur, hv, a1, (hw5 g (lt_of_block a2) this).trans a2, a3⟩
  · exact fun ad he => ⟨hA4 _ h.mkb.lt (fun ad he => (hne ad he).1) ad he, hA4 _ h.tot.lt (fun ad he => (hne ad he).2.1) ad he, hA4 _ h.parm.lt (fun ad he => (hne ad he).2.2) ad he⟩
  · show PrB w5 tb 49 [pr (totOf pq' ((st.ord ++ [nx]).take j))]
    rw [htot]
    have hb := hblk _ _ _ h.tot (by omega) htp (fun ad he => (hne ad he).2.1)
    exact (hw5 _ (Blk.lt hb) (by omega)).trans hb
  · rw [show (st.ord ++ [nx]).length = st.ord.length + 1 by simp]
    have hb := p2.kept (hg.block _ p2.lt (hnb _ (fun ad he => (hne ad he).2.2)))
    exact hb.kept (hw5 _ hb.lt (by omega))
  · rw [show (st.ord ++ [nx]).length = st.ord.length + 1 by simp]
    have hb := d2.kept (hg.block _ d2.lt (hnb _ hdA))
    exact hb.kept (hw5 _ hb.lt hdp)
def spOf (k : Nat) (f : Nat → Rat) : List (Int × Int) := (List.range k).map fun g => pr (f g)
/-- What a component leaves. -/
def CompPost (B : List Int) (V : List (List Int)) (e n k first : Nat) (don : Nd → Bool) (pq : Nat → Rat) (sp : Nat → Nat → Rat) (w : World) (dm PB N0 : Nat) (R : Nat → Nat) (x : Ending) (w' : World) : Prop :=
  Kept w.heap.size (dm :: PB :: (List.range n).map R) w w' ∧ match compB B V e n k first don pq sp with
    | none => x = .returned (.bool false)
    | some st => x = .returned (.bool true) ∧ PrB w' PB 49 (psOf k st.don (compPq B st)) ∧ MapN w' dm (N0 + 6) (.bool false) (fun z => .bool (st.don z)) ∧ ∀ i, i < n → PrB w' (R i) 49 (spOf k ((compBk B st sp).2 i))
theorem CompPost.no {B : List Int} {V : List (List Int)} {e n k first : Nat} {don : Nd → Bool} {pq : Nat → Rat} {sp : Nat → Nat → Rat} {w : World} {dm PB N0 : Nat} {R : Nat → Nat} {w' : World}
    (hk : Kept w.heap.size [dm, PB] w w') (h : compB B V e n k first don pq sp = none) : CompPost B V e n k first don pq sp w dm PB N0 R (.returned (.bool false)) w' := by
  refine ⟨hk.mono (Nat.le_refl _) (fun z hz => .inl (by simp at hz ⊢; rcases hz with h | h <;> simp [h])), ?_⟩
  rw [h]

/- Fractions of small numbers: the contracts of plus, minus, times, over in short. -/

def Sm (q : Rat) : Prop := -2000000 ≤ q.num ∧ q.num ≤ 2000000 ∧ (q.den : Int) ≤ 2000000
theorem sm_mul {a b : Int} (ha : -2000000 ≤ a ∧ a ≤ 2000000) (hb : 0 ≤ b ∧ b ≤ 2000000) : -4000000000000000000 ≤ a * b ∧ a * b ≤ 4000000000000000000 :=
  mul_shrink (a := a) (b := 2000000) (c := b) (m := 4000000000000000000) (by omega) (by omega) hb.1 hb.2
theorem mplus_sm (p q : Rat) (w : World) (hp : Sm p) (hq : Sm q) : Calls Try.prog 18 #[.agg #[.int .i64 p.num, .int .i64 (p.den : Int)], .agg #[.int .i64 q.num, .int .i64 (q.den : Int)]] w fun e w' => e = .returned (.agg #[.int .i64 (p + q).num, .int .i64 ((p + q).den : Int)]) ∧ Below w.heap.size w w' := by
  have p0 := den_pos p
  have q0 := den_pos q
  obtain ⟨p1, p2, p3⟩ := hp
  obtain ⟨q1, q2, q3⟩ := hq
  have a := sm_mul (a := p.num) (b := q.den) ⟨p1, p2⟩ ⟨by omega, q3⟩
  have b := sm_mul (a := q.num) (b := p.den) ⟨q1, q2⟩ ⟨by omega, p3⟩
  have c := sm_mul (a := p.den) (b := q.den) ⟨by omega, p3⟩ ⟨by omega, q3⟩
  exact mplus_raw p q w a.1 a.2 b.1 b.2 c.2 (by omega) (by omega)
theorem mminus_sm (p q : Rat) (w : World) (hp : Sm p) (hq : Sm q) : Calls Try.prog 50 #[.agg #[.int .i64 p.num, .int .i64 (p.den : Int)], .agg #[.int .i64 q.num, .int .i64 (q.den : Int)]] w fun e w' => e = .returned (.agg #[.int .i64 (p - q).num, .int .i64 ((p - q).den : Int)]) ∧ Below w.heap.size w w' := by
  have p0 := den_pos p
  have q0 := den_pos q
  obtain ⟨p1, p2, p3⟩ := hp
  obtain ⟨q1, q2, q3⟩ := hq
  have a := sm_mul (a := p.num) (b := q.den) ⟨p1, p2⟩ ⟨by omega, q3⟩
  have b := sm_mul (a := q.num) (b := p.den) ⟨q1, q2⟩ ⟨by omega, p3⟩
  have c := sm_mul (a := p.den) (b := q.den) ⟨by omega, p3⟩ ⟨by omega, q3⟩
  exact mminus_raw p q w a.1 a.2 b.1 b.2 c.2 (by omega) (by omega) (by omega)
theorem mtimes_sm (p q : Rat) (w : World) (hp : Sm p) (hq : Sm q) (hq0 : 0 ≤ q.num) : Calls Try.prog 19 #[.agg #[.int .i64 p.num, .int .i64 (p.den : Int)], .agg #[.int .i64 q.num, .int .i64 (q.den : Int)]] w fun e w' => e = .returned (.agg #[.int .i64 (p * q).num, .int .i64 ((p * q).den : Int)]) ∧ Below w.heap.size w w' := by
  have p0 := den_pos p
  have q0 := den_pos q
  obtain ⟨p1, p2, p3⟩ := hp
  obtain ⟨q1, q2, q3⟩ := hq
  have a := sm_mul (a := p.num) (b := q.num) ⟨p1, p2⟩ ⟨hq0, q2⟩
  have c := sm_mul (a := p.den) (b := q.den) ⟨by omega, p3⟩ ⟨by omega, q3⟩
  exact mtimes_raw p q w a.1 a.2 c.2 ⟨by omega, by omega⟩ ⟨by omega, by omega⟩ (by omega) (by omega)
theorem mover_sm (p q : Rat) (w : World) (hp : Sm p) (hq : Sm q) (hq0 : 0 < q.num) : Calls Try.prog 20 #[.agg #[.int .i64 p.num, .int .i64 (p.den : Int)], .agg #[.int .i64 q.num, .int .i64 (q.den : Int)]] w fun e w' => e = .returned (.agg #[.int .i64 (p / q).num, .int .i64 ((p / q).den : Int)]) ∧ Below w.heap.size w w' := by
  have p0 := den_pos p
  have q0 := den_pos q
  obtain ⟨p1, p2, p3⟩ := hp
  obtain ⟨q1, q2, q3⟩ := hq
  have a := sm_mul (a := p.num) (b := q.den) ⟨p1, p2⟩ ⟨by omega, q3⟩
  have c := sm_mul (a := p.den) (b := q.num) ⟨by omega, p3⟩ ⟨by omega, q2⟩
  exact mover_raw p q w hq0 a.1 a.2 c.2 ⟨by omega, by omega⟩ (by omega) (by omega) (by omega)
theorem own_someN {w : World} {base e size n c : Nat} {A : Option Addr} {xs : List Value} (h : w.ownsRow base e size (.slice A n c) n xs) (hn : 0 < n) : ∃ g, A = some ⟨g, 0, none⟩ ∧ base ≤ g ∧ g < w.heap.size ∧ ∀ j u, xs[j]? = some u → w.cell? ⟨g, j, none⟩ = some u := by
  have h0 := h
  rcases h.2 with ⟨_, h⟩ | ⟨g, cap, cur, hv, h1, h2, _⟩
  · omega
  · injection hv with e1
    subst e1
    refine ⟨g, rfl, h1, lt_of_block h2, fun j u hu => ?_⟩
    have := h0.cells (g := g) rfl j u hu
    cases j with
    | zero => simpa [Addr.add] using this
    | succ j => simpa [Addr.add] using this

/- The sizes of what a component answers: plain Lean. -/

theorem rat_ne {t : Int} (h : t ≠ 0) : (t : Rat) ≠ 0 := by
  intro e
  exact h (by exact_mod_cast e)
/-- What is left has one denominator t. -/
def LeftB (t : Int) (ord : List Nd) (m : Int) (lf : Nd → Rat) : Prop := ∃ l : Nd → Int, ∀ x ∈ ord, (-m ≤ l x ∧ l x ≤ m) ∧ lf x = (l x : Rat) / (t : Rat)
section
variable {V : List (List Int)} {n first : Nat} {st : CSt} {B : List Int}
theorem CInv.fin (h : CInv V n first st) (hG : goodsN V ≤ 3) (hb : 1 ≤ budOf B st.ord ∧ budOf B st.ord ≤ 120) (hB : ∀ b ∈ B, 1 ≤ b ∧ b ≤ 20) :
    (0 < (totOf st.pq st.ord).num) ∧ (0 < (facOf B st).num ∧ (facOf B st).num ≤ 48000 ∧ ((facOf B st).den : Int) ≤ 1200) ∧ (∀ g, (true, g) ∈ st.ord → 0 < (st.pq g * facOf B st).num ∧ (st.pq g * facOf B st).num ≤ 48000 ∧ ((st.pq g * facOf B st).den : Int) ≤ 1200) ∧
      ∃ t : Int, (1 ≤ t ∧ t ≤ 1200) ∧ LeftB t st.ord 48000 (lf0 B (compPq B st)) := by
  obtain ⟨D, a, ho⟩ := h.one hG
  obtain ⟨t, h1, h2, h3⟩ := ho.tot
  have hc := h.cn hG
  have hc1 := cN_pos (List.mem_of_getElem? h.hd)
  have hD := ho.1
  have ht : 1 ≤ t ∧ t ≤ 1200 := by omega
  have htr := rat_ne (t := t) (by omega)
  have hDr := rat_ne (t := D) (by omega)
  obtain ⟨b, hbe⟩ : ∃ b, b = budOf B st.ord := ⟨_, rfl⟩
  rw [← hbe] at hb
  have hf : facOf B st = ((b * D : Int) : Rat) / (t : Rat) := by
    unfold facOf
    rw [h3, ← hbe, Rat.intCast_mul]
    grind
  have up : ∀ {s u m p : Int}, 1 ≤ s → s ≤ m → 1 ≤ u → u ≤ p → 1 ≤ s * u ∧ s * u ≤ m * p := fun {s u m p} h1 h2 h3 h4 =>
    ⟨by have := Int.mul_le_mul h1 h3 (by omega) (by omega); simpa using this, Int.mul_le_mul h2 h4 (by omega) (by omega)⟩
  have hbd := up hb.1 hb.2 hD.1 hD.2
  have hpf : ∀ g, (true, g) ∈ st.ord → st.pq g * facOf B st = ((a g * b : Int) : Rat) / (t : Rat) ∧ 1 ≤ a g * b ∧ a g * b ≤ 48000 := fun g hg => by
    obtain ⟨g1, g2⟩ := ho.2 g hg
    have := up g1.1 g1.2 hb.1 hb.2
    refine ⟨?_, this.1, this.2⟩
    rw [g2, hf, Rat.intCast_mul, Rat.intCast_mul]
    grind
  have h5 := frac_pos (by omega) (by omega) h3
  have h6 := frac_pos (by omega) (by omega) hf
  refine ⟨h5.1, ⟨h6.1, by omega, by omega⟩, fun g hg => ?_, t, ht, fun x => if x.1 then a x.2 * b else B.getD x.2 0 * t, fun x hx => ?_⟩
  · obtain ⟨e1, e2, e3⟩ := hpf g hg
    have := frac_pos (by omega) (by omega) e1
    exact ⟨this.1, by omega, by omega⟩
  · obtain ⟨c, i⟩ := x
    cases c
    · have hx : 0 ≤ B.getD i 0 ∧ B.getD i 0 ≤ 20 := by
        rw [List.getD_eq_getElem?_getD]
        cases hb : B[i]? with
        | none => exact ⟨Int.le_refl _, by decide⟩
        | some b => have := hB b (List.mem_of_getElem? hb); simp; omega
      have hm : 0 ≤ B.getD i 0 * t ∧ B.getD i 0 * t ≤ 20 * 1200 := ⟨Int.mul_nonneg hx.1 (by omega), Int.mul_le_mul hx.2 ht.2 (by omega) (by omega)⟩
      simp only [Bool.false_eq_true, if_false]
      refine ⟨by omega, ?_⟩
      unfold lf0
      simp only [Bool.false_eq_true, if_false]
      rw [Rat.intCast_mul]
      grind
    · obtain ⟨e1, e2, e3⟩ := hpf i hx
      simp only [if_true]
      refine ⟨by omega, ?_⟩
      unfold lf0 compPq scaTo
      simp only [if_true, List.take_length]
      rw [if_pos hx]
      exact e1
theorem LeftB.bk {t : Int} (ht : 1 ≤ t) {lf : Nd → Rat} {sp : Nat → Nat → Rat} (h : CInv V n first st) (hl : LeftB t st.ord 48000 lf) : ∀ c, c + 1 ≤ st.ord.length → LeftB t st.ord (48000 * 2 ^ c) (bkTo st.ord st.par lf sp c).1 := by
  intro c
  induction c with
  | zero => intro _; simpa [bkTo] using hl
  | succ c ih =>
    intro hc
    obtain ⟨l, hl⟩ := ih (by omega)
    have htr := rat_ne (t := t) (by omega)
    have hj : st.ord.length - 1 - c < st.ord.length := by omega
    have hx := List.getElem?_eq_getElem hj
    have hxe : st.ord.getD (st.ord.length - 1 - c) (false, 0) = st.ord[st.ord.length - 1 - c] := by rw [List.getD_eq_getElem?_getD, hx]; rfl
    have hxm : st.ord[st.ord.length - 1 - c] ∈ st.ord := List.getElem_mem hj
    obtain ⟨⟨i, _, hi⟩, _, _⟩ := h.par _ _ hx (by omega)
    have hpm := List.mem_of_getElem? hi
    generalize st.ord[st.ord.length - 1 - c] = x at hxe hxm hpm
    have hP : (0 : Int) < 2 ^ c := Int.pow_pos (by decide)
    refine ⟨upd l (st.par x) (l (st.par x) - l x), fun z hz => ?_⟩
    simp only [bkTo]
    rw [hxe, Int.pow_succ]
    by_cases e : z = st.par x
    · rw [e, upd_same, upd_same]
      obtain ⟨p1, p2⟩ := hl _ hpm
      obtain ⟨q1, q2⟩ := hl _ hxm
      refine ⟨by omega, ?_⟩
      rw [p2, q2, Rat.intCast_sub]
      grind
    · rw [upd_other _ _ _ e, upd_other _ _ _ e]
      obtain ⟨p1, p2⟩ := hl _ hz
      exact ⟨by omega, p2⟩
theorem LeftB.sm {t : Int} (ht : 1 ≤ t ∧ t ≤ 1200) {lf : Nd → Rat} {ord : List Nd} {c : Nat} (hc : c ≤ 5) (h : LeftB t ord (48000 * 2 ^ c) lf) {x : Nd} (hx : x ∈ ord) : -1536000 ≤ (lf x).num ∧ (lf x).num ≤ 1536000 ∧ ((lf x).den : Int) ≤ 1200 := by
  obtain ⟨l, hl⟩ := h
  obtain ⟨h1, h2⟩ := hl x hx
  obtain ⟨b1, b2⟩ := frac_bd (by omega) h2
  have hp : (2 : Int) ^ c ≤ 32 := by
    have : c = 0 ∨ c = 1 ∨ c = 2 ∨ c = 3 ∨ c = 4 ∨ c = 5 := by omega
    rcases this with rfl | rfl | rfl | rfl | rfl | rfl <;> decide
  omega
end

/- The spendings that a component writes. -/

structure SpIn (w0 w : World) (bb PB dm SB n k : Nat) (R : Nat → Nat) (sp : Nat → Nat → Rat) : Prop where
  sb : w.cell? ⟨bb, 1, none⟩ = some (.slice (some ⟨SB, 0, none⟩) n n)
  row : ∀ i, i < n → w.cell? ⟨SB, i, none⟩ = some (.slice (some ⟨R i, 0, none⟩) k k)
  blk : ∀ i, i < n → PrB w (R i) 49 (spOf k (sp i))
  inj : ∀ i j, i < n → j < n → i ≠ j → R i ≠ R j
  rne : ∀ i, i < n → R i ≠ PB ∧ R i ≠ dm ∧ R i ≠ bb ∧ R i ≠ SB ∧ w0.heap.size ≤ R i
  sne : SB ≠ PB ∧ SB ≠ dm ∧ SB < w.heap.size
theorem upd_true {don : Nd → Bool} {x : Nd} (h : don x = true) : upd don x true = don := by
  funext z
  unfold upd
  split
  · rename_i e; rw [e, h]
  · rfl
theorem scaTo_not {f : Rat} {ord : List Nd} {pq : Nat → Rat} {i g : Nat} (hn : ord.Nodup) (h : ord[i]? = some (true, g)) : scaTo f ord pq i g = pq g := by
  have ht : ord.take (i + 1) = ord.take i ++ [(true, g)] := by rw [List.take_add_one, h]; rfl
  unfold scaTo
  rw [if_neg]
  intro hm
  have hnn : (ord.take (i + 1)).Nodup := (List.take_sublist _ _).nodup hn
  rw [ht, List.nodup_append] at hnn
  exact hnn.2.2 _ hm _ (by simp) rfl
theorem scaTo_zero (f : Rat) (ord : List Nd) (pq : Nat → Rat) : scaTo f ord pq 0 = pq := by
  funext g
  unfold scaTo
  rw [if_neg (by simp)]
/-- What the map of what is left gives while the first i nodes are laid. -/
def leftV (lf : Nd → Rat) (ord : List Nd) (i : Nat) (x : Nd) : Value := if x ∈ ord.take i then .agg #[.int .i64 (lf x).num, .int .i64 ((lf x).den : Int)] else .agg #[.int .i64 0, .int .i64 0]
theorem leftV_next {lf : Nd → Rat} {ord : List Nd} {i : Nat} {x : Nd} (h : ord[i]? = some x) : leftV lf ord (i + 1) = fun y => if y = x then .agg #[.int .i64 (lf x).num, .int .i64 ((lf x).den : Int)] else leftV lf ord i y := by
  have ht : ord.take (i + 1) = ord.take i ++ [x] := by rw [List.take_add_one, h]; rfl
  funext y
  unfold leftV
  rw [ht]
  by_cases e : y = x
  · subst e
    rw [if_pos (by simp), if_pos rfl]
  · rw [if_neg e]
    have : (y ∈ ord.take i ++ [x]) ↔ y ∈ ord.take i := by simp [e]
    simp only [this]
theorem leftV_zero (lf : Nd → Rat) (ord : List Nd) : leftV lf ord 0 = fun _ => .agg #[.int .i64 0, .int .i64 0] := by
  funext y
  unfold leftV
  rw [if_neg (by simp)]
theorem spOf_get {k : Nat} (f : Nat → Rat) {g : Nat} (hg : g < k) : (spOf k f)[g]? = some ((f g).num, ((f g).den : Int)) := by
  unfold spOf
  rw [List.getElem?_map, List.getElem?_range hg]
  rfl
theorem spOf_set {k : Nat} (f : Nat → Nat → Rat) (i g : Nat) (q : Rat) : (spOf k (f i)).set g (q.num, (q.den : Int)) = spOf k (upd2 f i g q i) := by
  apply List.ext_getElem?
  intro h
  rw [List.getElem?_set]
  by_cases e : g = h
  · subst e
    rw [if_pos rfl]
    by_cases hg : g < k
    · rw [if_pos (by simpa [spOf] using hg), spOf_get _ hg]
      unfold upd2
      rw [if_pos ⟨rfl, rfl⟩]
    · rw [if_neg (by simpa [spOf] using hg), List.getElem?_eq_none (by simp [spOf]; omega)]
  · rw [if_neg e]
    by_cases hh : h < k
    · rw [spOf_get _ hh, spOf_get _ hh]
      unfold upd2
      rw [if_neg (by intro e'; exact e e'.2.symm)]
    · rw [List.getElem?_eq_none (by simp [spOf]; omega), List.getElem?_eq_none (by simp [spOf]; omega)]
theorem upd2_other {f : Nat → Nat → Rat} {i g : Nat} {q : Rat} {j : Nat} (h : j ≠ i) : upd2 f i g q j = f j := by
  funext g'
  unfold upd2
  rw [if_neg (by intro e; exact h e.1)]
theorem leftV_get {lf : Nd → Rat} {ord : List Nd} {x : Nd} (h : x ∈ ord) : leftV lf ord ord.length x = .agg #[.int .i64 (lf x).num, .int .i64 ((lf x).den : Int)] := by
  unfold leftV
  rw [if_pos (by rw [List.take_length]; exact h)]
theorem leftV_upd {lf : Nd → Rat} {ord : List Nd} {x : Nd} (h : x ∈ ord) (q : Rat) : leftV (upd lf x q) ord ord.length = fun y => if y = x then .agg #[.int .i64 q.num, .int .i64 (q.den : Int)] else leftV lf ord ord.length y := by
  funext y
  unfold leftV
  rw [List.take_length]
  by_cases e : y = x
  · subst e
    rw [if_pos h, if_pos rfl, upd_same]
  · rw [if_neg e, upd_other _ _ _ e]
theorem bkTo_next {ord : List Nd} {par : Nd → Nd} {lf : Nd → Rat} {sp : Nat → Nat → Rat} {c j : Nat} {x : Nd} (hj : c + j + 1 = ord.length) (h : ord[j]? = some x) :
    bkTo ord par lf sp (c + 1) = (upd (bkTo ord par lf sp c).1 (par x) ((bkTo ord par lf sp c).1 (par x) - (bkTo ord par lf sp c).1 x), upd2 (bkTo ord par lf sp c).2 (if x.1 then (par x).2 else x.2) (if x.1 then x.2 else (par x).2) ((bkTo ord par lf sp c).1 x)) := by
  have e : ord.getD (ord.length - 1 - c) (false, 0) = x := by
    rw [show ord.length - 1 - c = j by omega, List.getD_eq_getElem?_getD, h]; rfl
  simp only [bkTo, e]
/-- The rows of what is spent. -/
def SpRows (w : World) (n k : Nat) (R : Nat → Nat) (sp : Nat → Nat → Rat) : Prop := ∀ i, i < n → PrB w (R i) 49 (spOf k (sp i))
theorem SpRows.far {w : World} {n k : Nat} {R : Nat → Nat} {sp : Nat → Nat → Rat} (h : SpRows w n k R sp) {w' : World} (hb : ∀ i, i < n → w'.heap[R i]? = w.heap[R i]?) : SpRows w' n k R sp := fun i hi => (hb i hi).trans (h i hi)
/-- One of them is written. -/
theorem SpRows.put {w : World} {n k : Nat} {R : Nat → Nat} {sp : Nat → Nat → Rat} (h : SpRows w n k R sp) (inj : ∀ i j, i < n → j < n → i ≠ j → R i ≠ R j) {b : Nat} (hb : b < n) (g : Nat) (q : Rat) :
    SpRows ((w.setCell ⟨R b, g * 2, none⟩ (.int .i64 q.num)).setCell ⟨R b, g * 2 + 1, none⟩ (.int .i64 (q.den : Int))) n k R (upd2 sp b g q) := by
  intro i hi
  by_cases e : i = b
  · subst e
    have := (h i hi).set_ g q.num q.den
    rw [spOf_set] at this
    exact this
  · rw [upd2_other e]
    exact Blk.far (Blk.far (h i hi) (inj i b hi hb e) _) (inj i b hi hb e) _
/-- The end of a component. -/
theorem CompPost.fin {B : List Int} {V : List (List Int)} {e n k first : Nat} {don : Nd → Bool} {pq : Nat → Rat} {sp : Nat → Nat → Rat} {w : World} {dm PB N0 : Nat} {R : Nat → Nat} {w' : World} {st : CSt}
    (h1 : compF V e n k first don pq = some st) (h0 : budOf B st.ord ≠ 0) (hk : Kept w.heap.size (dm :: PB :: (List.range n).map R) w w')
    (hp : PrB w' PB 49 (psOf k st.don (compPq B st))) (hd : MapN w' dm (N0 + 6) (.bool false) (fun z => .bool (st.don z))) (hr : SpRows w' n k R (compBk B st sp).2) :
    CompPost B V e n k first don pq sp w dm PB N0 R (.returned (.bool (decide ((compBk B st sp).1 (true, first) = 0)))) w' := by
  refine ⟨hk, ?_⟩
  rw [compB_fin sp h1 h0]
  cases decide ((compBk B st sp).1 (true, first) = 0)
  · rfl
  · exact ⟨rfl, hp, hd, hr⟩
theorem mem_rows {n : Nat} {R : Nat → Nat} {b : Nat} (hb : b < n) : R b ∈ (List.range n).map R := List.mem_map.2 ⟨b, List.mem_range.2 hb, rfl⟩

/- What solve finds: plain Lean. -/

/-- What is true of the search besides. -/
structure SInv (V : List (List Int)) (n first : Nat) (don : Nd → Bool) (pq : Nat → Rat) (st : CSt) : Prop where
  inv : CInv V n first st
  dn : ∀ z, st.don z = true ↔ don z = true ∨ z ∈ st.ord
  pr : ∀ g, (true, g) ∉ st.ord → st.pq g = pq g
theorem SInv.start {V : List (List Int)} {n first : Nat} (don : Nd → Bool) (pq : Nat → Rat) (hf : first < goodsN V) : SInv V n first don pq (start0 don pq first) where
  inv := CInv.start don pq hf
  dn := by
    intro z
    show upd don (true, first) true z = true ↔ _ ∨ z ∈ [(true, first)]
    unfold upd
    rw [List.mem_singleton]
    split
    · simp [*]
    · simp [*]
  pr := by
    intro g hg
    refine upd_other _ _ _ ?_
    intro e
    exact hg (by subst e; simp [start0])
theorem SInv.step {V : List (List Int)} {n first : Nat} {don : Nd → Bool} {pq : Nat → Rat} {st : CSt} (h : SInv V n first don pq st) (hu : ∀ i g, 0 ≤ useN V i g ∧ useN V i g ≤ 20) {k : Nat} {x : Nd} {y : Nat} (hx : st.ord[k]? = some x)
    (hy1 : buyerOf x y < n) (hy2 : goodOf x y < goodsN V) (hd : st.don (nextOf x y) = false) (h0 : useN V (buyerOf x y) (goodOf x y) ≠ 0) : SInv V n first don pq (stepC V st x y) where
  inv := h.inv.step hu hx hy1 hy2 hd h0
  dn := by
    intro z
    show upd st.don (nextOf x y) true z = true ↔ _ ∨ z ∈ st.ord ++ [nextOf x y]
    rw [List.mem_append, List.mem_singleton]
    unfold upd
    split
    · simp [*]
    · rw [h.dn z]
      rename_i hne
      simp [hne]
  pr := by
    intro g hg
    have hg' : (true, g) ∉ st.ord ++ [nextOf x y] := hg
    rw [List.mem_append, List.mem_singleton] at hg'
    show (if x.1 then st.pq else upd st.pq y (relP V st x y)) g = _
    cases hb : x.1
    · simp only [Bool.false_eq_true, if_false]
      rw [upd_other _ _ _ (fun e => hg' (.inr (by subst e; simp [nextOf, hb])))]
      exact h.pr g fun hm => hg' (.inl hm)
    · simp only [if_true]
      exact h.pr g fun hm => hg' (.inl hm)
theorem SInv.visit {V : List (List Int)} {e n first : Nat} {don : Nd → Bool} {pq : Nat → Rat} {st st' : CSt} (h : SInv V n first don pq st) (hu : ∀ i g, 0 ≤ useN V i g ∧ useN V i g ≤ 20) {k : Nat} {x : Nd} {y : Nat} (hx : st.ord[k]? = some x)
    (hv : visit V e n k st x y = some st') : SInv V n first don pq st' ∧ st'.ord[k]? = some x := by
  unfold Go.Proofs.Ytoeohpkdjlfooaa.visit at hv
  by_cases hs : skipB V e n k st x y = true
  · rw [if_pos hs] at hv
    injection hv with hv
    subst hv
    exact ⟨h, hx⟩
  · rw [if_neg hs] at hv
    by_cases hc : (st.don (nextOf x y) || decide (useN V (buyerOf x y) (goodOf x y) = 0)) = true
    · rw [if_pos hc] at hv; cases hv
    · rw [if_neg hc] at hv
      injection hv with hv
      subst hv
      simp only [skipB, Bool.or_eq_true, decide_eq_true_eq, not_or] at hs
      simp only [Bool.or_eq_true, decide_eq_true_eq, not_or] at hc
      refine ⟨h.step hu hx (by omega) (by omega) (by simpa using hc.1) hc.2, ?_⟩
      show (st.ord ++ [nextOf x y])[k]? = _
      rw [List.getElem?_append_left (List.getElem?_eq_some_iff.1 hx).1]
      exact hx
theorem SInv.visitTo {V : List (List Int)} {e n first : Nat} {don : Nd → Bool} {pq : Nat → Rat} {st : CSt} (h : SInv V n first don pq st) (hu : ∀ i g, 0 ≤ useN V i g ∧ useN V i g ≤ 20) {k : Nat} {x : Nd} (hx : st.ord[k]? = some x) :
    ∀ (y : Nat) (st' : CSt), visitTo V e n k st x y = some st' → SInv V n first don pq st' ∧ st'.ord[k]? = some x
  | 0, st', hv => by injection hv with hv; subst hv; exact ⟨h, hx⟩
  | y + 1, st', hv => by
    simp only [Go.Proofs.Ytoeohpkdjlfooaa.visitTo] at hv
    cases h1 : Go.Proofs.Ytoeohpkdjlfooaa.visitTo V e n k st x y with
    | none => rw [h1] at hv; cases hv
    | some s =>
      rw [h1] at hv
      obtain ⟨h2, h3⟩ := SInv.visitTo h hu hx y s h1
      exact h2.visit hu h3 hv
theorem SInv.srch {V : List (List Int)} {e n M first : Nat} {don : Nd → Bool} {pq : Nat → Rat} {st : CSt} (h : SInv V n first don pq st) (hu : ∀ i g, 0 ≤ useN V i g ∧ useN V i g ≤ 20) :
    ∀ (k : Nat) (st' : CSt), srchTo V e n M st k = some st' → SInv V n first don pq st'
  | 0, st', hv => by injection hv with hv; subst hv; exact h
  | k + 1, st', hv => by
    simp only [srchTo] at hv
    cases h1 : srchTo V e n M st k with
    | none => rw [h1] at hv; cases hv
    | some s =>
      rw [h1] at hv
      simp only [Option.bind_some] at hv
      have h2 := SInv.srch h hu k s h1
      cases h3 : s.ord[k]? with
      | none => rw [h3] at hv; injection hv with hv; subst hv; exact h2
      | some x => rw [h3] at hv; exact (h2.visitTo hu h3 _ _ hv).1
theorem compF_inv {V : List (List Int)} {e n k first : Nat} {don : Nd → Bool} {pq : Nat → Rat} {st : CSt} (hu : ∀ i g, 0 ≤ useN V i g ∧ useN V i g ≤ 20) (hf : first < goodsN V) (h : compF V e n k first don pq = some st) : SInv V n first don pq st :=
  (SInv.start don pq hf).srch hu 6 st h
theorem compB_inv {B : List Int} {V : List (List Int)} {e n k first : Nat} {don : Nd → Bool} {pq : Nat → Rat} {sp : Nat → Nat → Rat} {st : CSt} (h : compB B V e n k first don pq sp = some st) :
    compF V e n k first don pq = some st ∧ budOf B st.ord ≠ 0 ∧ (compBk B st sp).1 (true, first) = 0 := by
  unfold compB at h
  cases h1 : compF V e n k first don pq with
  | none => rw [h1] at h; cases h
  | some s =>
    rw [h1] at h
    simp only at h
    by_cases hc : compOk B s sp first = true
    · rw [if_pos hc] at h
      injection h with h
      subst h
      simp only [compOk, Bool.and_eq_true, Bool.not_eq_true', decide_eq_false_iff_not, decide_eq_true_eq] at hc
      exact ⟨rfl, hc.1, hc.2⟩
    · rw [if_neg hc] at h; cases h
/-- What is done, the prices and the spendings. -/
structure SolS where
  don : Nd → Bool
  pq : Nat → Rat
  sp : Nat → Nat → Rat
def sol0 : SolS := ⟨fun _ => false, fun _ => 0, fun _ _ => 0⟩
def solStep (B : List Int) (V : List (List Int)) (e n k g : Nat) (s : SolS) : Option SolS :=
  if s.don (true, g) then some s else (compB B V e n k g s.don s.pq s.sp).map fun st => ⟨st.don, compPq B st, (compBk B st s.sp).2⟩
def solTo (B : List Int) (V : List (List Int)) (e n k : Nat) : Nat → Option SolS
  | 0 => some sol0
  | g + 1 => (solTo B V e n k g).bind (solStep B V e n k g)
theorem solTo_none {B : List Int} {V : List (List Int)} {e n k g : Nat} (h : solTo B V e n k g = none) : ∀ z, g ≤ z → solTo B V e n k z = none := by
  intro z hz
  induction z with
  | zero => rw [show g = 0 by omega] at h; exact h
  | succ z ih =>
    rcases Nat.lt_or_ge g (z + 1) with h1 | h1
    · simp only [solTo]; rw [ih (by omega)]; rfl
    · rw [show z + 1 = g by omega]; exact h
def solP (k : Nat) (s : SolS) : List Rat := (List.range k).map s.pq
def solS (n k : Nat) (s : SolS) : List (List Rat) := (List.range n).map fun i => (List.range k).map (s.sp i)
def allDon (n : Nat) (s : SolS) : Bool := (List.range n).all fun i => s.don (false, i)
/-- What solve finds. -/
def solF (B : List Int) (V : List (List Int)) (e n k : Nat) : Option (List Rat × List (List Rat)) :=
  match solTo B V e n k k with
  | none => none
  | some s => if allDon n s && balB B V (solP k s) (solS n k s) then some (solP k s, solS n k s) else none
theorem LeftB.spb {t m : Int} (ht : 1 ≤ t ∧ t ≤ 1200) (hm : m ≤ 768000) {lf : Nd → Rat} {ord : List Nd} (h : LeftB t ord m lf) {x : Nd} (hx : x ∈ ord) : -768000 ≤ (lf x).num ∧ (lf x).num ≤ 768000 ∧ ((lf x).den : Int) ≤ 1200 := by
  obtain ⟨l, hl⟩ := h
  obtain ⟨h1, h2⟩ := hl x hx
  obtain ⟨b1, b2⟩ := frac_bd (by omega) h2
  omega
theorem upd2_ok {P : Rat → Prop} {f : Nat → Nat → Rat} {i g : Nat} {q : Rat} (h : ∀ i g, P (f i g)) (hq : P q) : ∀ i' g', P (upd2 f i g q i' g') := by
  intro i' g'
  unfold upd2
  split
  · exact hq
  · exact h _ _
/-- Small prices, small spendings. -/
def PrS (q : Rat) : Prop := 1 ≤ q.num ∧ q.num ≤ 48000 ∧ (q.den : Int) ≤ 1200
def SpS (q : Rat) : Prop := -768000 ≤ q.num ∧ q.num ≤ 768000 ∧ (q.den : Int) ≤ 1200
theorem PrS.ok {q : Rat} (h : PrS q) : PrOk q := ⟨h.1, by have := h.2.1; omega, by have := h.2.2; omega⟩
theorem SpS.ok {q : Rat} (h : SpS q) : SpB q := ⟨by have := h.1; omega, by have := h.2.1; omega, by have := h.2.2; omega⟩
/-- The sizes of what solve has reckoned. -/
structure SolOk (k g : Nat) (s : SolS) : Prop where
  dg : ∀ h, h < g → s.don (true, h) = true
  pok : ∀ h, s.don (true, h) = true → PrS (s.pq h)
  sok : ∀ i h, SpS (s.sp i h)
theorem SolOk.zero (k : Nat) : SolOk k 0 sol0 where
  dg := by intro h hh; omega
  pok := by intro h hh; cases hh
  sok := by
    intro i h
    have h0 : SpS 0 := ⟨by decide, by decide, by decide⟩
    exact h0
section
variable {B : List Int} {V : List (List Int)} {e n k : Nat}
theorem comp_ok (hu : ∀ i g, 0 ≤ useN V i g ∧ useN V i g ≤ 20) (hB : ∀ b ∈ B, 1 ≤ b ∧ b ≤ 20) (hk : k ≤ 3) (hn : n ≤ 3) (hG : goodsN V = k) {g : Nat} (hg : g < k) {s : SolS} (hs : SolOk k g s) {st : CSt}
    (h : compB B V e n k g s.don s.pq s.sp = some st) : SolOk k (g + 1) ⟨st.don, compPq B st, (compBk B st s.sp).2⟩ := by
  obtain ⟨h1, h2, _⟩ := compB_inv h
  have hi := compF_inv hu (by omega) h1
  have hbb : 0 ≤ budOf B st.ord ∧ budOf B st.ord ≤ 20 * st.ord.length := budOf_bd hB st.ord
  have hlen := hi.inv.len (by omega) hn
  obtain ⟨_, _, f3, t, ht, hl⟩ := hi.inv.fin (B := B) (by omega) ⟨by omega, by omega⟩ hB
  refine ⟨fun h hh => ?_, fun h hh => ?_, ?_⟩
  · rw [show h = h from rfl]
    show st.don (true, h) = true
    rw [hi.dn]
    rcases Nat.lt_or_ge h g with h3 | h3
    · exact .inl (hs.dg h h3)
    · exact .inr (by rw [show h = g by omega]; exact List.mem_of_getElem? hi.inv.hd)
  · show PrS (scaTo (facOf B st) st.ord st.pq st.ord.length h)
    unfold scaTo
    rw [List.take_length]
    by_cases hm : (true, h) ∈ st.ord
    · rw [if_pos hm]
      obtain ⟨a1, a2, a3⟩ := f3 h hm
      exact ⟨by omega, by omega, by omega⟩
    · rw [if_neg hm, hi.pr h hm]
      refine hs.pok h ?_
      rcases (hi.dn _).1 hh with h4 | h4
      · exact h4
      · exact absurd h4 hm
  · show ∀ i h, SpS ((compBk B st s.sp).2 i h)
    unfold compBk
    have key : ∀ c, c + 1 ≤ st.ord.length → ∀ i h, SpS ((bkTo st.ord st.par (lf0 B (compPq B st)) s.sp c).2 i h) := by
      intro c
      induction c with
      | zero => intro _; exact hs.sok
      | succ c ih =>
        intro hc
        have hj : st.ord.length - 1 - c < st.ord.length := by omega
        have hb := hl.bk ht.1 (sp := s.sp) hi.inv c (by omega)
        have hc4 : c = 0 ∨ c = 1 ∨ c = 2 ∨ c = 3 ∨ c = 4 := by omega
        rw [bkTo_next (j := st.ord.length - 1 - c) (by omega) (List.getElem?_eq_getElem hj)]
        refine upd2_ok (ih (by omega)) (hb.spb ht ?_ (List.getElem_mem hj))
        rcases hc4 with rfl | rfl | rfl | rfl | rfl <;> decide
    have hp : 0 < st.ord.length := (List.getElem?_eq_some_iff.1 hi.inv.hd).1
    exact key _ (by omega)
theorem step_ok (hu : ∀ i g, 0 ≤ useN V i g ∧ useN V i g ≤ 20) (hB : ∀ b ∈ B, 1 ≤ b ∧ b ≤ 20) (hk : k ≤ 3) (hn : n ≤ 3) (hG : goodsN V = k) {g : Nat} (hg : g < k) {s s' : SolS} (hs : SolOk k g s)
    (h : solStep B V e n k g s = some s') : SolOk k (g + 1) s' := by
  unfold solStep at h
  by_cases hd : s.don (true, g) = true
  · rw [if_pos hd] at h
    injection h with h
    subst h
    refine ⟨fun h hh => ?_, hs.pok, hs.sok⟩
    rcases Nat.lt_or_ge h g with h3 | h3
    · exact hs.dg h h3
    · rw [show h = g by omega]; exact hd
  · rw [if_neg hd] at h
    cases h1 : compB B V e n k g s.don s.pq s.sp with
    | none => rw [h1] at h; cases h
    | some st =>
      rw [h1] at h
      injection h with h
      subst h
      exact comp_ok hu hB hk hn hG hg hs h1
end
theorem psOf_all {k : Nat} {s : SolS} (h : SolOk k k s) : psOf k s.don s.pq = (solP k s).map pr := by
  unfold psOf solP
  rw [List.map_map]
  refine List.map_congr_left fun g hg => ?_
  rw [h.dg g (List.mem_range.1 hg)]
  rfl
theorem solP_sm {k : Nat} {s : SolS} (h : SolOk k k s) : ∀ q ∈ solP k s, PrS q := by
  intro q hq
  obtain ⟨g, hg, rfl⟩ := List.mem_map.1 hq
  exact h.pok g (h.dg g (List.mem_range.1 hg))
theorem solS_sm {n k : Nat} {s : SolS} (h : SolOk k k s) : ∀ r ∈ solS n k s, ∀ q ∈ r, SpS q := by
  intro r hr q hq
  obtain ⟨i, _, rfl⟩ := List.mem_map.1 hr
  obtain ⟨g, _, rfl⟩ := List.mem_map.1 hq
  exact h.sok i g
theorem solP_ok {k : Nat} {s : SolS} (h : SolOk k k s) : ∀ q ∈ solP k s, PrOk q := fun q hq => (solP_sm h q hq).ok
theorem solS_ok {n k : Nat} {s : SolS} (h : SolOk k k s) : ∀ r ∈ solS n k s, ∀ q ∈ r, SpB q := fun r hr q hq => (solS_sm h r hr q hq).ok
section
variable {B : List Int} {V : List (List Int)} {e n k : Nat}
theorem solTo_ok (hu : ∀ i g, 0 ≤ useN V i g ∧ useN V i g ≤ 20) (hB : ∀ b ∈ B, 1 ≤ b ∧ b ≤ 20) (hk : k ≤ 3) (hn : n ≤ 3) (hG : goodsN V = k) : ∀ (g : Nat) (s : SolS), g ≤ k → solTo B V e n k g = some s → SolOk k g s
  | 0, s, _, h => by injection h with h; subst h; exact SolOk.zero k
  | g + 1, s, hg, h => by
    simp only [solTo] at h
    cases h1 : solTo B V e n k g with
    | none => rw [h1] at h; cases h
    | some s1 =>
      rw [h1] at h
      exact step_ok hu hB hk hn hG (by omega) (solTo_ok hu hB hk hn hG g s1 (by omega) h1) h
/-- What is found is in balance, and small. -/
structure SolR (B : List Int) (V : List (List Int)) (n k : Nat) (r : List Rat × List (List Rat)) : Prop where
  bal : balB B V r.1 r.2 = true
  lp : r.1.length = k
  ls : r.2.length = n
  lr : ∀ x ∈ r.2, x.length = k
  ps : ∀ q ∈ r.1, PrS q
  ss : ∀ x ∈ r.2, ∀ q ∈ x, SpS q
theorem solF_ok (hu : ∀ i g, 0 ≤ useN V i g ∧ useN V i g ≤ 20) (hB : ∀ b ∈ B, 1 ≤ b ∧ b ≤ 20) (hk : k ≤ 3) (hn : n ≤ 3) (hG : goodsN V = k) {r : List Rat × List (List Rat)} (h : solF B V e n k = some r) : SolR B V n k r := by
  unfold solF at h
  cases h1 : solTo B V e n k k with
  | none => rw [h1] at h; cases h
  | some s =>
    rw [h1] at h
    have ho := solTo_ok hu hB hk hn hG k s (Nat.le_refl _) h1
    simp only at h
    by_cases hc : (allDon n s && balB B V (solP k s) (solS n k s)) = true
    · rw [if_pos hc] at h
      injection h with h
      subst h
      rw [Bool.and_eq_true] at hc
      exact ⟨hc.2, by simp [solP], by simp [solS], by
        intro x hx
        obtain ⟨i, _, rfl⟩ := List.mem_map.1 hx
        simp, solP_sm ho, solS_sm ho⟩
    · rw [if_neg hc] at h; cases h
end

/- What balanced says, in plain words. -/

theorem sumF_Q (f : Nat → Rat) (n : Nat) : sumF f n = sumQ f n := by
  induction n with
  | zero => rfl
  | succ n ih => simp only [sumF, sumQ, ih]
def budQ (B : List Int) (i : Nat) : Rat := ((B.getD i 0 : Int) : Rat)
def useQ (V : List (List Int)) (i g : Nat) : Rat := ((useN V i g : Int) : Rat)
def priQ (P : List Rat) (g : Nat) : Rat := P.getD g 0
theorem div_le_div {a b p q : Rat} (hp : 0 < p) (hq : 0 < q) : a / p ≤ b / q ↔ a * q ≤ b * p := by
  have hpq := Rat.mul_pos hp hq
  constructor
  · intro h
    have h1 := Rat.mul_le_mul_of_nonneg_right h (Rat.le_of_lt hpq)
    have e1 : a / p * (p * q) = a * q := by grind
    have e2 : b / q * (p * q) = b * p := by grind
    rwa [e1, e2] at h1
  · intro h
    by_cases h2 : a / p ≤ b / q
    · exact h2
    · exfalso
      have h3 := Rat.mul_pos (show 0 < a / p - b / q by grind) hpq
      have e1 : a / p * (p * q) = a * q := by grind
      have e2 : b / q * (p * q) = b * p := by grind
      grind
section
variable {B : List Int} {V : List (List Int)} {P : List Rat} {S : List (List Rat)} {n k : Nat}
theorem want_iff (hp : P.length = k) (hpos : ∀ q ∈ P, 0 < q) {i g : Nat} (hr : (rowV V i).length = k) (hu : ∀ g, 0 ≤ useN V i g) (hg : g < k) :
    (wantS (rowV V i) P).testBit g = true ↔ ∀ h, h < k → useQ V i h * priQ P g ≤ useQ V i g * priQ P h := by
  have hP : ∀ g, g < k → 0 < priQ P g := fun g hg => by
    unfold priQ
    rw [List.getD_eq_getElem?_getD, List.getElem?_eq_getElem (by omega)]
    exact hpos _ (List.getElem_mem _)
  have h0 : ∀ g, 0 ≤ useP (rowV V i) P g := fun g => by
    unfold useP
    by_cases hg : g < k
    · rw [Rat.div_def]
      refine Rat.mul_nonneg ?_ (Rat.le_of_lt (Rat.inv_pos.2 (hP g hg)))
      have := hu g
      unfold useN at this
      exact_mod_cast this
    · have : P.getD g 0 = 0 := by rw [List.getD_eq_getElem?_getD, List.getElem?_eq_none (by omega)]; rfl
      rw [this, Rat.div_def, Rat.inv_zero, Rat.mul_zero]
      exact Rat.le_refl
  unfold wantS
  rw [hr, want_bit h0 hg]
  constructor
  · intro h x hx
    exact (div_le_div (hP x hx) (hP g hg)).1 (h x hx)
  · intro h x hx
    exact (div_le_div (hP x hx) (hP g hg)).2 (h x hx)
theorem bal_equi (hB : B.length = n) (hp : P.length = k) (hpos : ∀ q ∈ P, 0 < q) (hr : ∀ i, i < n → (rowV V i).length = k) (hu : ∀ i g, 0 ≤ useN V i g) :
    balB B V P S = true ↔ Equi n k (budQ B) (useQ V) (priQ P) (spd S) := by
  have hP : ∀ g, g < k → 0 < priQ P g := fun g hg => by
    unfold priQ
    rw [List.getD_eq_getElem?_getD, List.getElem?_eq_getElem (by omega)]
    exact hpos _ (List.getElem_mem _)
  unfold balB
  rw [Bool.and_eq_true, decide_eq_true_eq, List.all_eq_true, hB, hp]
  have hcol : (List.range k).map (fun g => sumF (fun i => spd S i g) n) = P ↔ ∀ g, g < k → sumQ (fun i => spd S i g) n = priQ P g := by
    constructor
    · intro h g hg
      have h1 : ((List.range k).map (fun g => sumF (fun i => spd S i g) n)).getD g 0 = sumF (fun i => spd S i g) n := by
        rw [List.getD_eq_getElem?_getD, List.getElem?_map, List.getElem?_range hg]; rfl
      rw [h] at h1
      rw [← sumF_Q]
      exact h1.symm
    · intro h
      apply List.ext_getElem?
      intro g
      by_cases hg : g < k
      · rw [List.getElem?_map, List.getElem?_range hg, List.getElem?_eq_getElem (by omega)]
        have := h g hg
        unfold priQ at this
        rw [List.getD_eq_getElem?_getD, List.getElem?_eq_getElem (by omega)] at this
        simp only [Option.map_some, sumF_Q]
        rw [this]; rfl
      · rw [List.getElem?_eq_none (by simpa using hg), List.getElem?_eq_none (by omega)]
  rw [hcol]
  have hline : ∀ i, i < n → (lineOk B V P S i = true ↔ (∀ g, g < k → 0 ≤ spd S i g) ∧ sumQ (spd S i) k = budQ B i ∧ ∀ g, g < k → spd S i g ≠ 0 → ∀ h, h < k → useQ V i h * priQ P g ≤ useQ V i g * priQ P h) := by
    intro i hi
    unfold lineOk cellOk
    rw [Bool.and_eq_true, decide_eq_true_eq, List.all_eq_true, hp, sumF_Q]
    simp only [List.mem_range, Bool.and_eq_true, Bool.or_eq_true, decide_eq_true_eq]
    constructor
    · rintro ⟨h1, h2⟩
      refine ⟨fun g hg => (h1 g hg).1, h2, fun g hg hs => ?_⟩
      rcases (h1 g hg).2 with h3 | h3
      · exact absurd h3 hs
      · exact (want_iff hp hpos (hr i hi) (hu i) hg).1 h3
    · rintro ⟨h1, h2, h3⟩
      refine ⟨fun g hg => ⟨h1 g hg, ?_⟩, h2⟩
      by_cases hs : spd S i g = 0
      · exact .inl hs
      · exact .inr ((want_iff hp hpos (hr i hi) (hu i) hg).2 (h3 g hg hs))
  constructor
  · rintro ⟨h1, h2⟩
    exact {
      pos := hP
      nn := fun i g hi hg => ((hline i hi).1 (h1 i (List.mem_range.2 hi))).1 g hg
      row := fun i hi => ((hline i hi).1 (h1 i (List.mem_range.2 hi))).2.1
      col := h2
      want := fun i g hi hg hs => ((hline i hi).1 (h1 i (List.mem_range.2 hi))).2.2 g hg hs }
  · intro h
    refine ⟨fun i hi => ?_, h.col⟩
    have hi := List.mem_range.1 hi
    exact (hline i hi).2 ⟨fun g hg => h.nn i g hi hg, h.row i hi, fun g hg hs => h.want i g hi hg hs⟩
end
/-- A valid market, in plain words. -/
structure MkOk (n k : Nat) (b : Nat → Rat) (u : Nat → Nat → Rat) : Prop where
  un : ∀ i g, i < n → g < k → 0 ≤ u i g
  us : ∀ i, i < n → ∃ g, g < k ∧ 0 < u i g
  ug : ∀ g, g < k → ∃ i, i < n ∧ 0 < u i g
  bp : ∀ i, i < n → 0 < b i
theorem mkOk_of {B : List Int} {V : List (List Int)} (h : validM B V = true) : MkOk B.length (goodsN V) (budQ B) (useQ V) ∧ (∀ i, i < B.length → (rowV V i).length = goodsN V) ∧ ∀ i g, 0 ≤ useN V i g ∧ useN V i g ≤ 20 := by
  obtain ⟨⟨a1, a2, a3, a4⟩, b1, b2, b3⟩ := validM_iff.1 h
  have hu : ∀ i g, 0 ≤ useN V i g ∧ useN V i g ≤ 20 := useN_bd b2
  have hrow : ∀ i, i < B.length → rowV V i ∈ V := fun i hi => List.mem_of_getElem? (rowV_some (by omega))
  refine ⟨⟨fun i g _ _ => ?_, fun i hi => ?_, fun g hg => ?_, fun i hi => ?_⟩, fun i hi => (rowOk_iff.1 (b2 _ (hrow i hi))).1, hu⟩
  · unfold useQ
    exact_mod_cast (hu i g).1
  · obtain ⟨e, _, x, hx, h0⟩ := rowOk_iff.1 (b2 _ (hrow i hi))
    obtain ⟨g, hg⟩ := List.getElem?_of_mem hx
    have hgl := (List.getElem?_eq_some_iff.1 hg).1
    refine ⟨g, by omega, ?_⟩
    unfold useQ useN
    rw [List.getD_eq_getElem?_getD, hg]
    exact_mod_cast h0
  · have h1 := b3 g hg
    unfold wanted at h1
    rw [List.any_eq_true] at h1
    obtain ⟨r, hr, h0⟩ := h1
    rw [decide_eq_true_eq] at h0
    obtain ⟨i, hi⟩ := List.getElem?_of_mem hr
    have hil := (List.getElem?_eq_some_iff.1 hi).1
    refine ⟨i, by omega, ?_⟩
    unfold useQ useN
    rw [rowV_get hi]
    exact_mod_cast h0
  · have hb := a3 (B.getD i 0) (by
      rw [List.getD_eq_getElem?_getD, List.getElem?_eq_getElem hi]
      exact List.getElem_mem _)
    unfold budQ
    exact_mod_cast (show 0 < B.getD i 0 by omega)
theorem SolR.equi {B : List Int} {V : List (List Int)} {r : List Rat × List (List Rat)} (hv : validM B V = true) (h : SolR B V B.length (goodsN V) r) : Equi B.length (goodsN V) (budQ B) (useQ V) (priQ r.1) (spd r.2) := by
  obtain ⟨_, h2, h3⟩ := mkOk_of hv
  exact (bal_equi rfl h.lp (fun q hq => (h.ps q hq).ok.pos) h2 (fun i g => (h3 i g).1)).1 h.bal

/- What buyers get is worth, and how great its numbers are: plain Lean. -/

def worQ (V : List (List Int)) (P : List Rat) (S : List (List Rat)) (i g : Nat) : Rat := useQ V i g * spd S i g / priQ P g
def worTo (V : List (List Int)) (P : List Rat) (S : List (List Rat)) (i g : Nat) : Rat := sumQ (worQ V P S i) g
def worL (V : List (List Int)) (n k : Nat) (r : List Rat × List (List Rat)) : List Rat := (List.range n).map fun i => worTo V r.1 r.2 i k
def Wb (q : Rat) : Prop := 0 ≤ q.num ∧ q.num ≤ 576000000 ∧ (q.den : Int) ≤ 57600000
theorem num_den_of (q : Rat) : q = (q.num : Rat) / ((q.den : Int) : Rat) := by
  rw [← Rat.divInt_eq_div]
  exact (Rat.num_divInt_den q).symm
theorem rat_num_le {x : Rat} {m : Int} (h : x ≤ (m : Rat)) : x.num ≤ m * x.den := by
  have h1 := (Rat.le_iff x (m : Rat)).1 h
  rw [Rat.num_intCast, Rat.den_intCast] at h1
  simpa using h1
theorem quot_wb {u : Int} {x p : Rat} (hu : 0 ≤ u ∧ u ≤ 20) (hx0 : 0 ≤ x.num) (hx : x.num ≤ 24000) (hxd : (x.den : Int) ≤ 1200) (hp : PrS p) : Wb ((u : Rat) * x / p) := by
  obtain ⟨p1, p2, p3⟩ := hp
  have hxd0 := den_pos x
  have hpd0 := den_pos p
  have e : (u : Rat) * x / p = ((u * (x.num * p.den) : Int) : Rat) / (((x.den : Int) * p.num : Int) : Rat) := by
    rw [Rat.intCast_mul, Rat.intCast_mul, Rat.intCast_mul]
    have hx' := num_den_of x
    have hp' := num_den_of p
    have a1 : ((x.den : Int) : Rat) ≠ 0 := rat_ne (by omega)
    have a2 : ((p.den : Int) : Rat) ≠ 0 := rat_ne (by omega)
    have a3 : (p.num : Rat) ≠ 0 := rat_ne (by omega)
    generalize ((x.den : Int) : Rat) = xd at *
    generalize ((p.den : Int) : Rat) = pd at *
    generalize (x.num : Rat) = xn at *
    generalize (p.num : Rat) = pn at *
    subst hx'
    subst hp'
    grind
  have h1 : 0 ≤ x.num * (p.den : Int) ∧ x.num * (p.den : Int) ≤ 24000 * 1200 := ⟨Int.mul_nonneg hx0 (by omega), Int.mul_le_mul hx p3 (by omega) (by omega)⟩
  have h2 : 0 ≤ u * (x.num * (p.den : Int)) ∧ u * (x.num * (p.den : Int)) ≤ 20 * (24000 * 1200) := ⟨Int.mul_nonneg hu.1 h1.1, Int.mul_le_mul hu.2 h1.2 h1.1 (by omega)⟩
  have h3 : 1 * 1 ≤ (x.den : Int) * p.num ∧ (x.den : Int) * p.num ≤ 1200 * 48000 := ⟨Int.mul_le_mul (by omega) p1 (by omega) (by omega), Int.mul_le_mul hxd p2 (by omega) (by omega)⟩
  have h4 := frac_bd (by omega) e
  have h5 := frac_nn (by omega) h2.1 e
  unfold Wb
  omega
theorem sub_den {b : Int} {x : Rat} (hx0 : 0 ≤ (b : Rat) - x) (hb : b ≤ 20) (hx : 0 ≤ x) (hxd : (x.den : Int) ≤ 1200) : 0 ≤ ((b : Rat) - x).num ∧ ((b : Rat) - x).num ≤ 24000 ∧ ((((b : Rat) - x).den : Int)) ≤ 1200 := by
  have hxd0 := den_pos x
  have e : (b : Rat) - x = ((b * x.den - x.num : Int) : Rat) / ((x.den : Int) : Rat) := by
    rw [Rat.intCast_sub, Rat.intCast_mul]
    have hx' := num_den_of x
    have a1 : ((x.den : Int) : Rat) ≠ 0 := rat_ne (by omega)
    generalize ((x.den : Int) : Rat) = xd at *
    generalize (x.num : Rat) = xn at *
    subst hx'
    grind
  have h4 := frac_bd (by omega) e
  have h6 : (b : Rat) - x ≤ ((20 : Int) : Rat) := by
    have : (b : Rat) ≤ ((20 : Int) : Rat) := by exact_mod_cast hb
    grind
  have h7 := rat_num_le h6
  have h8 := Rat.num_nonneg.2 hx0
  omega
theorem small_sp {b : Int} {x : Rat} (hx0 : 0 ≤ x) (hxb : x ≤ (b : Rat)) (hb : b ≤ 20) (hxd : (x.den : Int) ≤ 1200) : 0 ≤ x.num ∧ x.num ≤ 24000 := by
  have h6 : x ≤ ((20 : Int) : Rat) := by
    have : (b : Rat) ≤ ((20 : Int) : Rat) := by exact_mod_cast hb
    grind
  have h7 := rat_num_le h6
  have h8 := Rat.num_nonneg.2 hx0
  have hxd0 := den_pos x
  omega
theorem Wb.zero : Wb 0 := ⟨by decide, by decide, by decide⟩
section
variable {B : List Int} {V : List (List Int)} {r : List Rat × List (List Rat)}
theorem pri_sm (h : SolR B V B.length (goodsN V) r) {g : Nat} (hg : g < goodsN V) : PrS (priQ r.1 g) := by
  unfold priQ
  rw [List.getD_eq_getElem?_getD, List.getElem?_eq_getElem (by rw [h.lp]; exact hg)]
  exact h.ps _ (List.getElem_mem _)
theorem spd_den (h : SolR B V B.length (goodsN V) r) (i g : Nat) : ((spd r.2 i g).den : Int) ≤ 1200 := by
  unfold spd rowQ
  rw [List.getD_eq_getElem?_getD, List.getD_eq_getElem?_getD]
  cases e : r.2[i]? with
  | none => simp
  | some x =>
    simp only [Option.getD_some]
    cases e2 : x[g]? with
    | none => simp
    | some q => exact (h.ss x (List.mem_of_getElem? e) q (List.mem_of_getElem? e2)).2.2
theorem wor_wb (hv : validM B V = true) (h : SolR B V B.length (goodsN V) r) {i g : Nat} (hi : i < B.length) (hg : g < goodsN V) :
    (0 ≤ (spd r.2 i g).num ∧ (spd r.2 i g).num ≤ 24000 ∧ ((spd r.2 i g).den : Int) ≤ 1200) ∧ Wb (worQ V r.1 r.2 i g) ∧ Wb (worTo V r.1 r.2 i g) := by
  obtain ⟨hm, _, hu⟩ := mkOk_of hv
  have hE := h.equi hv
  obtain ⟨⟨a1, a2, a3, a4⟩, b1, b2, b3⟩ := validM_iff.1 hv
  have hbi := a3 (B.getD i 0) (by
    rw [List.getD_eq_getElem?_getD, List.getElem?_eq_getElem hi]
    exact List.getElem_mem _)
  have hsp : ∀ x, x < goodsN V → 0 ≤ spd r.2 i x ∧ spd r.2 i x ≤ ((B.getD i 0 : Int) : Rat) := fun x hx => ⟨hE.nn i x hi hx, by
    have h1 := sq_le (f := spd r.2 i) (n := goodsN V) (fun y hy => hE.nn i y hi hy) x hx
    rw [hE.row i hi] at h1
    exact h1⟩
  have hsm : ∀ x, x < goodsN V → 0 ≤ (spd r.2 i x).num ∧ (spd r.2 i x).num ≤ 24000 ∧ ((spd r.2 i x).den : Int) ≤ 1200 := fun x hx => by
    have h1 := small_sp (hsp x hx).1 (hsp x hx).2 hbi.2 (spd_den h i x)
    exact ⟨h1.1, h1.2, spd_den h i x⟩
  have hwq : ∀ x, x < goodsN V → Wb (worQ V r.1 r.2 i x) := fun x hx => by
    obtain ⟨c1, c2, c3⟩ := hsm x hx
    exact quot_wb (hu i x) c1 c2 c3 (pri_sm h hx)
  refine ⟨hsm g hg, hwq g hg, ?_⟩
  have hg3 : g = 0 ∨ g = 1 ∨ g = 2 := by omega
  rcases hg3 with rfl | rfl | rfl
  · exact Wb.zero
  · have e : worTo V r.1 r.2 i 1 = worQ V r.1 r.2 i 0 := by
      show (0 : Rat) + worQ V r.1 r.2 i 0 = _
      grind
    rw [e]
    exact hwq 0 (by omega)
  · have hk : goodsN V = 3 := by omega
    have e : worTo V r.1 r.2 i 2 = worQ V r.1 r.2 i 0 + worQ V r.1 r.2 i 1 := by
      show (0 : Rat) + worQ V r.1 r.2 i 0 + worQ V r.1 r.2 i 1 = _
      grind
    rw [e]
    by_cases h0 : spd r.2 i 0 = 0
    · have e1 : worQ V r.1 r.2 i 0 = 0 := by unfold worQ; rw [h0, Rat.mul_zero, Rat.div_def, Rat.zero_mul]
      rw [e1, Rat.zero_add]
      exact hwq 1 (by omega)
    · by_cases h1 : spd r.2 i 1 = 0
      · have e1 : worQ V r.1 r.2 i 1 = 0 := by unfold worQ; rw [h1, Rat.mul_zero, Rat.div_def, Rat.zero_mul]
        rw [e1, Rat.add_zero]
        exact hwq 0 (by omega)
      · have w0 := hE.want i 0 hi (by omega) h0 1 (by omega)
        have w1 := hE.want i 1 hi (by omega) h1 0 (by omega)
        have p0 := hE.pos 0 (by omega)
        have p1 := hE.pos 1 (by omega)
        have hrow := hE.row i hi
        rw [hk] at hrow
        have hrow' : (0 : Rat) + spd r.2 i 0 + spd r.2 i 1 + spd r.2 i 2 = budQ B i := hrow
        have hs := hsp 2 (by omega)
        have hd := sub_den (b := B.getD i 0) (x := spd r.2 i 2) (by have := hs.2; grind) hbi.2 hs.1 (spd_den h i 2)
        have hq := quot_wb (hu i 0) hd.1 hd.2.1 hd.2.2 (pri_sm h (g := 0) (by omega))
        have e2 : worQ V r.1 r.2 i 0 + worQ V r.1 r.2 i 1 = ((useN V i 0 : Int) : Rat) * (((B.getD i 0 : Int) : Rat) - spd r.2 i 2) / priQ r.1 0 := by
          have hb' : ((B.getD i 0 : Int) : Rat) - spd r.2 i 2 = spd r.2 i 0 + spd r.2 i 1 := by
            have : budQ B i = ((B.getD i 0 : Int) : Rat) := rfl
            grind
          rw [hb']
          unfold worQ
          have hu0 : useQ V i 0 = ((useN V i 0 : Int) : Rat) := rfl
          rw [← hu0]
          have heq : useQ V i 0 * priQ r.1 1 = useQ V i 1 * priQ r.1 0 := by grind
          generalize priQ r.1 0 = q0 at *
          generalize priQ r.1 1 = q1 at *
          generalize useQ V i 0 = c0 at *
          generalize useQ V i 1 = c1 at *
          generalize spd r.2 i 0 = s0 at *
          generalize spd r.2 i 1 = s1 at *
          have e3 : c1 / q1 = c0 / q0 := by
            have : c1 = c0 * q1 / q0 := by grind
            rw [this]
            grind
          have e4 : c1 * s1 / q1 = c0 / q0 * s1 := by
            rw [← e3]
            grind
          rw [e4]
          grind
        rw [e2]
        exact hq
end

/- Edges without a cycle: the search never fails. Plain Lean. -/

def onesV (n k : Nat) : List (List Int) := List.replicate n (List.replicate k 1)
/-- The search alone. -/
def strTo (n k e : Nat) : Nat → Option (Nd → Bool)
  | 0 => some fun _ => false
  | g + 1 => (strTo n k e g).bind fun don => if don (true, g) then some don else (compF (onesV n k) e n k g don (fun _ => 0)).map (·.don)
/-- The cycles of three buyers and three goods: what is taken, what is given. -/
def cycles : List (List (Nat × Nat) × List (Nat × Nat)) :=
  [([(0, 0), (1, 1)], [(0, 1), (1, 0)]), ([(0, 0), (1, 2)], [(0, 2), (1, 0)]), ([(0, 1), (1, 2)], [(0, 2), (1, 1)]),
   ([(0, 0), (2, 1)], [(0, 1), (2, 0)]), ([(0, 0), (2, 2)], [(0, 2), (2, 0)]), ([(0, 1), (2, 2)], [(0, 2), (2, 1)]),
   ([(1, 0), (2, 1)], [(1, 1), (2, 0)]), ([(1, 0), (2, 2)], [(1, 2), (2, 0)]), ([(1, 1), (2, 2)], [(1, 2), (2, 1)]),
   ([(0, 0), (1, 1), (2, 2)], [(0, 1), (1, 2), (2, 0)]), ([(0, 0), (1, 1), (2, 2)], [(0, 2), (1, 0), (2, 1)]), ([(0, 1), (1, 2), (2, 0)], [(0, 2), (1, 0), (2, 1)]),
   ([(0, 0), (1, 2), (2, 1)], [(0, 1), (1, 0), (2, 2)]), ([(0, 0), (1, 2), (2, 1)], [(0, 2), (1, 1), (2, 0)]), ([(0, 1), (1, 0), (2, 2)], [(0, 2), (1, 1), (2, 0)])]
def inE (n k e : Nat) (x : Nat × Nat) : Bool := decide (x.1 < n) && (decide (x.2 < k) && e.testBit (x.1 * k + x.2))
def hasCyc (n k e : Nat) : Bool := cycles.any fun c => (c.1 ++ c.2).all (inE n k e)
def allStr (n k N : Nat) : Bool := (List.range N).all fun e => hasCyc n k e || (strTo n k e k).isSome
set_option maxRecDepth 100000 in
theorem str11 : allStr 1 1 2 = true := by decide +kernel
set_option maxRecDepth 100000 in
theorem str12 : allStr 1 2 4 = true := by decide +kernel
set_option maxRecDepth 100000 in
theorem str13 : allStr 1 3 8 = true := by decide +kernel
set_option maxRecDepth 100000 in
theorem str21 : allStr 2 1 4 = true := by decide +kernel
set_option maxRecDepth 100000 in
theorem str22 : allStr 2 2 16 = true := by decide +kernel
set_option maxRecDepth 100000 in
theorem str23 : allStr 2 3 64 = true := by decide +kernel
set_option maxRecDepth 100000 in
theorem str31 : allStr 3 1 8 = true := by decide +kernel
set_option maxRecDepth 100000 in
theorem str32 : allStr 3 2 64 = true := by decide +kernel
set_option maxRecDepth 100000 in
theorem str33 : allStr 3 3 512 = true := by decide +kernel
theorem str_all {n k e : Nat} (hn : 1 ≤ n ∧ n ≤ 3) (hk : 1 ≤ k ∧ k ≤ 3) (he : e < 2 ^ (n * k)) (hc : hasCyc n k e = false) : ∃ don, strTo n k e k = some don := by
  have key : ∀ N, allStr n k N = true → e < N → ∃ don, strTo n k e k = some don := fun N h hN => by
    have h1 := List.all_eq_true.1 h e (List.mem_range.2 hN)
    rw [hc, Bool.false_or] at h1
    exact Option.isSome_iff_exists.1 h1
  have h1 : n = 1 ∨ n = 2 ∨ n = 3 := by omega
  have h2 : k = 1 ∨ k = 2 ∨ k = 3 := by omega
  rcases h1 with rfl | rfl | rfl <;> rcases h2 with rfl | rfl | rfl
  · exact key _ str11 he
  · exact key _ str12 he
  · exact key _ str13 he
  · exact key _ str21 he
  · exact key _ str22 he
  · exact key _ str23 he
  · exact key _ str31 he
  · exact key _ str32 he
  · exact key _ str33 he

/- The search from a good finds a tree: plain Lean. -/

/-- The pair of two neighbours: buyer and good. -/
def eB (x z : Nd) : Nat := if x.1 then z.2 else x.2
def eG (x z : Nd) : Nat := if x.1 then x.2 else z.2
theorem eB_next (x : Nd) (y : Nat) : eB x (nextOf x y) = buyerOf x y := rfl
theorem eG_next (x : Nd) (y : Nat) : eG x (nextOf x y) = goodOf x y := by
  unfold eG nextOf goodOf
  rfl
theorem eB_symm {x z : Nd} (h : z.1 = !x.1) : eB x z = eB z x := by
  unfold eB; rw [h]; cases x.1 <;> rfl
theorem eG_symm {x z : Nd} (h : z.1 = !x.1) : eG x z = eG z x := by
  unfold eG; rw [h]; cases x.1 <;> rfl
def edN (e k : Nat) (x z : Nd) : Prop := e.testBit (eB x z * k + eG x z) = true
/-- What is true of a search for edges that are of use, whose prices are in proportion. -/
structure TInv (V : List (List Int)) (e n k first : Nat) (don : Nd → Bool) (p : Nat → Rat) (st : CSt) : Prop where
  new : ∀ x ∈ st.ord, don x = false
  pe : ∀ (j : Nat) (x : Nd), st.ord[j]? = some x → 0 < j → edN e k x (st.par x)
  pq : ∀ g, (true, g) ∈ st.ord → st.pq g = p g / p first
/-- The first j nodes have been looked at whole, the next one up to y. -/
def Seen (e n k first : Nat) (st : CSt) (j : Nat) (x : Nd) (y : Nat) : Prop := buyerOf x y < n → goodOf x y < k → edN e k x (nextOf x y) → (0 < j ∧ nextOf x y = st.par x) ∨ (nextOf x y ∈ st.ord ∧ nextOf x y ≠ (true, first) ∧ st.par (nextOf x y) = x)
section
variable {V : List (List Int)} {e n k first : Nat} {don : Nd → Bool} {pq0 p : Nat → Rat}
theorem TInv.start (hd : don (true, first) = false) (hp : p first ≠ 0) : TInv V e n k first don p (start0 don pq0 first) where
  new := by
    intro x hx
    have : x = (true, first) := by simpa [start0] using hx
    rw [this]; exact hd
  pe := by
    intro j x hx hj
    simp only [start0] at hx
    rw [List.getElem?_eq_none (by simp; omega)] at hx
    cases hx
  pq := by
    intro g hg
    have : g = first := by simpa [start0] using hg
    subst this
    show upd pq0 g 1 g = _
    rw [upd_same]
    grind
/-- A step keeps the ones that are there. -/
theorem stepC_par {st : CSt} {x z : Nd} {y : Nat} (h : z ≠ nextOf x y) : (stepC V st x y).par z = st.par z := upd_other _ _ _ h
theorem TInv.step (hG : goodsN V = k) (_ : ∀ g, g < k → 0 < p g) (hu : ∀ i g, i < n → g < k → e.testBit (i * k + g) = true → 0 < useN V i g) (hpr : ∀ i g h, i < n → g < k → h < k → e.testBit (i * k + g) = true → e.testBit (i * k + h) = true → useQ V i h * p g = useQ V i g * p h)
    {st : CSt} (hs : SInv V n first don pq0 st) (h : TInv V e n k first don p st) {j : Nat} {x : Nd} {y : Nat} (hx : st.ord[j]? = some x) (hb : buyerOf x y < n) (hg : goodOf x y < k) (hbit : edN e k x (nextOf x y)) (hd : st.don (nextOf x y) = false) :
    TInv V e n k first don p (stepC V st x y) := by
  have hnew : nextOf x y ∉ st.ord := fun hm => by
    have := (hs.dn (nextOf x y)).2 (.inr hm)
    rw [this] at hd; cases hd
  have hxm : x ∈ st.ord := List.mem_of_getElem? hx
  have hjl : j < st.ord.length := (List.getElem?_eq_some_iff.1 hx).1
  constructor
  · intro z hz
    rcases List.mem_append.1 (show z ∈ st.ord ++ [nextOf x y] from hz) with hz | hz
    · exact h.new z hz
    · rw [List.mem_singleton] at hz
      subst hz
      cases hdz : don (nextOf x y) with
      | false => rfl
      | true => rw [(hs.dn _).2 (.inl hdz)] at hd; cases hd
  · intro i z hz hi
    have hz' : (st.ord ++ [nextOf x y])[i]? = some z := hz
    rcases Nat.lt_or_ge i st.ord.length with hil | hil
    · rw [List.getElem?_append_left hil] at hz'
      have hzm := List.mem_of_getElem? hz'
      rw [stepC_par (fun e => hnew (e ▸ hzm))]
      exact h.pe i z hz' hi
    · rw [List.getElem?_append_right hil] at hz'
      have h0 : i - st.ord.length = 0 := by
        rcases Nat.eq_zero_or_pos (i - st.ord.length) with h1 | h1
        · exact h1
        · rw [List.getElem?_eq_none (by simp; omega)] at hz'; cases hz'
      rw [h0] at hz'
      simp at hz'
      subst hz'
      have e1 : (stepC V st x y).par (nextOf x y) = x := upd_same _ _ _
      rw [e1]
      unfold edN at hbit ⊢
      have hn : x.1 = !(nextOf x y).1 := by simp [nextOf]
      rw [eB_symm hn, eG_symm hn]
      exact hbit
  · intro g hgm
    have hgm' : (true, g) ∈ st.ord ++ [nextOf x y] := hgm
    show (if x.1 then st.pq else upd st.pq y (relP V st x y)) g = _
    obtain ⟨c, i⟩ := x
    cases c with
    | true =>
      simp only [if_true]
      refine h.pq g ?_
      rcases List.mem_append.1 hgm' with h1 | h1
      · exact h1
      · rw [List.mem_singleton] at h1
        have := congrArg Prod.fst h1
        simp [nextOf] at this
    | false =>
      simp only [Bool.false_eq_true, if_false]
      by_cases hgy : g = y
      · subst hgy
        rw [upd_same]
        have hj : 0 < j := by
          rcases Nat.eq_zero_or_pos j with h' | h'
          · subst h'; rw [hs.inv.hd] at hx; cases hx
          · exact h'
        obtain ⟨⟨j2, hj2, hj3⟩, hp1, hp2⟩ := hs.inv.par j (false, i) hx hj
        simp only [Bool.not_false] at hp1
        have hpm := List.mem_of_getElem? hj3
        rw [show st.par (false, i) = (true, (st.par (false, i)).2) from Prod.ext hp1 rfl] at hpm
        have hpr2 := hs.inv.rng _ hpm
        simp only [if_true] at hpr2
        rw [hG] at hpr2
        have hbi : i < n := hb
        have hgk : g < k := hg
        have b1 : e.testBit (i * k + g) = true := hbit
        have b2 : e.testBit (i * k + (st.par (false, i)).2) = true := h.pe j (false, i) hx hj
        have hm := h.pq _ hpm
        unfold relP
        rw [hm]
        have hpp := hpr i (st.par (false, i)).2 g hbi hpr2 hgk b2 b1
        have hu1 := hu i (st.par (false, i)).2 hbi hpr2 b2
        have hu2 : useQ V i (st.par (false, i)).2 ≠ 0 := rat_ne (by omega)
        show p (st.par (false, i)).2 / p first * (useQ V i g / useQ V i (st.par (false, i)).2) = p g / p first
        generalize useQ V i (st.par (false, i)).2 = u2 at *
        generalize useQ V i g = u1 at *
        generalize p (st.par (false, i)).2 = p2 at *
        generalize p g = p1 at *
        generalize p first = p0 at *
        have e1 : p1 = u1 * p2 / u2 := by grind
        rw [e1]
        grind
      · rw [upd_other _ _ _ hgy]
        refine h.pq g ?_
        rcases List.mem_append.1 hgm' with h1 | h1
        · exact h1
        · rw [List.mem_singleton] at h1
          have := congrArg Prod.snd h1
          exact absurd this hgy
theorem Seen.step {st : CSt} (hs : SInv V n first don pq0 st) {j' : Nat} {x x' : Nd} {y y' : Nat} (hd : st.don (nextOf x y) = false) (hx' : x' ∈ st.ord) (h : Seen e n k first st j' x' y') : Seen e n k first (stepC V st x y) j' x' y' := by
  have hnew : nextOf x y ∉ st.ord := fun hm => by
    have := (hs.dn (nextOf x y)).2 (.inr hm)
    rw [this] at hd; cases hd
  intro h1 h2 h3
  rcases h h1 h2 h3 with ⟨a, c⟩ | ⟨a, a2, c⟩
  · left
    rw [stepC_par (fun e => hnew (e ▸ hx'))]
    exact ⟨a, c⟩
  · right
    refine ⟨List.mem_append_left _ a, a2, ?_⟩
    rw [stepC_par (fun e => hnew (e ▸ a))]
    exact c
end
/-- All that is true while the search runs: j nodes whole, y of the next. -/
structure TAll (V : List (List Int)) (e n k first M : Nat) (don : Nd → Bool) (pq0 p : Nat → Rat) (st : CSt) (j : Nat) (x : Nd) (y : Nat) : Prop where
  s : SInv V n first don pq0 st
  t : TInv V e n k first don p st
  old : ∀ (i : Nat) (z : Nd), i < j → st.ord[i]? = some z → ∀ y', y' < M → Seen e n k first st i z y'
  cur : ∀ y', y' < y → Seen e n k first st j x y'
section
variable {V : List (List Int)} {e n k first M : Nat} {don : Nd → Bool} {pq0 p : Nat → Rat}
theorem TAll.visit (hub : ∀ i g, 0 ≤ useN V i g ∧ useN V i g ≤ 20) (hG : goodsN V = k) (hp : ∀ g, g < k → 0 < p g) (hu : ∀ i g, i < n → g < k → e.testBit (i * k + g) = true → 0 < useN V i g)
    (hpr : ∀ i g h, i < n → g < k → h < k → e.testBit (i * k + g) = true → e.testBit (i * k + h) = true → useQ V i h * p g = useQ V i g * p h)
    {st st' : CSt} {j : Nat} {x : Nd} {y : Nat} (h : TAll V e n k first M don pq0 p st j x y) (hx : st.ord[j]? = some x) (hv : visit V e n j st x y = some st') : TAll V e n k first M don pq0 p st' j x (y + 1) ∧ st'.ord[j]? = some x := by
  have hsv := h.s.visit hub hx hv
  unfold Go.Proofs.Ytoeohpkdjlfooaa.visit at hv
  by_cases hs : skipB V e n j st x y = true
  · rw [if_pos hs] at hv
    injection hv with hv
    subst hv
    refine ⟨{ h with cur := fun y' hy' => ?_ }, hx⟩
    rcases Nat.lt_or_ge y' y with h1 | h1
    · exact h.cur y' h1
    · have e1 : y' = y := by omega
      subst e1
      intro h2 h3 h4
      simp only [skipB, Bool.or_eq_true, decide_eq_true_eq, Bool.and_eq_true, Bool.not_eq_true'] at hs
      rw [hG] at hs
      rcases hs with a | a | a | ⟨a, c⟩
      · omega
      · omega
      · unfold edN at h4
        rw [eB_next, eG_next] at h4
        rw [a] at h4; cases h4
      · exact .inl ⟨c, a⟩
  · rw [if_neg hs] at hv
    by_cases hc : (st.don (nextOf x y) || decide (useN V (buyerOf x y) (goodOf x y) = 0)) = true
    · rw [if_pos hc] at hv; cases hv
    · rw [if_neg hc] at hv
      injection hv with hv
      subst hv
      simp only [skipB, Bool.or_eq_true, decide_eq_true_eq, not_or, Bool.not_eq_true', Bool.not_eq_false] at hs
      simp only [Bool.or_eq_true, decide_eq_true_eq, not_or, Bool.not_eq_true] at hc
      rw [hG] at hs
      obtain ⟨s1, s2, s3, _⟩ := hs
      have hbit : edN e k x (nextOf x y) := by
        unfold edN
        rw [eB_next, eG_next]
        exact s3
      have hxm : x ∈ st.ord := List.mem_of_getElem? hx
      have hjl : j < st.ord.length := (List.getElem?_eq_some_iff.1 hx).1
      refine ⟨{ s := hsv.1, t := h.t.step hG hp hu hpr h.s hx (by omega) (by omega) hbit hc.1, old := fun i z hi hz y' hy' => ?_, cur := fun y' hy' => ?_ }, hsv.2⟩
      · have hz' : (st.ord ++ [nextOf x y])[i]? = some z := hz
        rw [List.getElem?_append_left (by omega)] at hz'
        exact (h.old i z hi hz' y' hy').step h.s hc.1 (List.mem_of_getElem? hz')
      · rcases Nat.lt_or_ge y' y with h1 | h1
        · exact (h.cur y' h1).step h.s hc.1 hxm
        · have e1 : y' = y := by omega
          subst e1
          intro _ _ _
          right
          refine ⟨List.mem_append_right _ (by simp), fun he => ?_, upd_same _ _ _⟩
          have h7 := (h.s.dn (nextOf x y')).2 (.inr (by rw [he]; exact List.mem_of_getElem? h.s.inv.hd))
          rw [hc.1] at h7
          cases h7
theorem TAll.visitTo (hub : ∀ i g, 0 ≤ useN V i g ∧ useN V i g ≤ 20) (hG : goodsN V = k) (hp : ∀ g, g < k → 0 < p g) (hu : ∀ i g, i < n → g < k → e.testBit (i * k + g) = true → 0 < useN V i g)
    (hpr : ∀ i g h, i < n → g < k → h < k → e.testBit (i * k + g) = true → e.testBit (i * k + h) = true → useQ V i h * p g = useQ V i g * p h)
    {st : CSt} {j : Nat} {x : Nd} (h : TAll V e n k first M don pq0 p st j x 0) (hx : st.ord[j]? = some x) :
    ∀ (y : Nat) (st' : CSt), visitTo V e n j st x y = some st' → TAll V e n k first M don pq0 p st' j x y ∧ st'.ord[j]? = some x
  | 0, st', hv => by injection hv with hv; subst hv; exact ⟨h, hx⟩
  | y + 1, st', hv => by
    simp only [Go.Proofs.Ytoeohpkdjlfooaa.visitTo] at hv
    cases h1 : Go.Proofs.Ytoeohpkdjlfooaa.visitTo V e n j st x y with
    | none => rw [h1] at hv; cases hv
    | some s =>
      rw [h1] at hv
      obtain ⟨h2, h3⟩ := TAll.visitTo hub hG hp hu hpr h hx y s h1
      exact h2.visit hub hG hp hu hpr h3 hv
theorem TAll.srch (hub : ∀ i g, 0 ≤ useN V i g ∧ useN V i g ≤ 20) (hG : goodsN V = k) (hp : ∀ g, g < k → 0 < p g) (hu : ∀ i g, i < n → g < k → e.testBit (i * k + g) = true → 0 < useN V i g)
    (hpr : ∀ i g h, i < n → g < k → h < k → e.testBit (i * k + g) = true → e.testBit (i * k + h) = true → useQ V i h * p g = useQ V i g * p h)
    {st : CSt} (h : TAll V e n k first M don pq0 p st 0 (true, first) 0) :
    ∀ (j : Nat) (st' : CSt), srchTo V e n M st j = some st' → ∀ x, TAll V e n k first M don pq0 p st' j x 0
  | 0, st', hv, x => by injection hv with hv; subst hv; exact { h with cur := fun y hy => by omega }
  | j + 1, st', hv, x => by
    simp only [srchTo] at hv
    cases h1 : srchTo V e n M st j with
    | none => rw [h1] at hv; cases hv
    | some s =>
      rw [h1] at hv
      simp only [Option.bind_some] at hv
      cases h3 : s.ord[j]? with
      | none =>
        rw [h3] at hv
        injection hv with hv
        subst hv
        have h2 := TAll.srch hub hG hp hu hpr h j s h1 x
        have hl : s.ord.length ≤ j := List.getElem?_eq_none_iff.1 h3
        exact { h2 with
          old := fun i z hi hz => h2.old i z (by
            have := (List.getElem?_eq_some_iff.1 hz).1
            omega) hz
          cur := fun y hy => by omega }
      | some z =>
        rw [h3] at hv
        have h2 := TAll.srch hub hG hp hu hpr h j s h1 z
        obtain ⟨h4, h5⟩ := h2.visitTo hub hG hp hu hpr h3 M st' hv
        refine { s := h4.s, t := h4.t, old := fun i z' hi hz y' hy' => ?_, cur := fun y hy => by omega }
        rcases Nat.lt_or_ge i j with h6 | h6
        · exact h4.old i z' h6 hz y' hy'
        · have e1 : i = j := by omega
          subst e1
          rw [h5] at hz
          injection hz with hz
          subst hz
          exact h4.cur y' hy'
end
end Go.Proofs.Ytoeohpkdjlfooaa
