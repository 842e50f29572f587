/- Laws and contracts that the proof of GamesSerial uses, part 3. -/
import Derived.Test.YtbidboagaoifaaaGamesSerialM1
import Derived.Test.YtbidboagaoifaaaGamesSerialM2
import Derived.Deep.RegionHeld3
import Derived.Laws.EntriesVeiled
import Derived.Laws.AppendOwnNone
namespace Go.Proofs.Ytbidboagaoifaaa
open Go.RowKit

/- Contract: the function that Core of package games calls for each choice of sets. -/

/-- The system of a choice of sets. -/
def sysC (c : List Int) (n : Nat) (sets : List Nat) : List (List Int) := sets.map fun s => rowL n s (c.getD s 0)
/-- One unknown. -/
def solQ (x l : Int) : Rat := Rat.divInt (if l < 0 then -x else x) (max l (-l))
/-- The unknowns. -/
def solL (h : Nat → Nat → Int) (l : Int) (n : Nat) : List Rat := (List.range n).map fun i => solQ (h i n) l
/-- The corner of a choice of sets, if it is in the core. -/
def cand (c : List Int) (n : Nat) (sets : List Nat) : Option (List Rat) :=
  if sets.getD (n - 1) 0 = 2 ^ n - 1 then
    match slvTo (entry (sysC c n sets)) n n with
    | none => none
    | some (h, l) => if ccB c ((solL h l n).map pr) then some (solL h l n) else none
  else none

theorem rowL_get (n s : Nat) (x : Int) (j : Nat) (hj : j < n) : (rowL n s x).getD j 0 = bitI s j := by
  unfold rowL
  rw [List.getD_eq_getElem?_getD, List.getElem?_append_left (by simpa using hj)]
  simp [hj]
theorem rowL_last (n s : Nat) (x : Int) : (rowL n s x).getD n 0 = x := by
  unfold rowL
  rw [List.getD_eq_getElem?_getD, List.getElem?_append_right (by simp)]
  simp
theorem sysC_bd {c : List Int} (hc : ∀ x ∈ c, 0 ≤ x ∧ x ≤ 1000) (n : Nat) (sets : List Nat) (hl : sets.length = n) : BdM 1 1000 (entry (sysC c n sets)) n := by
  have e : ∀ i, i < n → ∃ s, (sysC c n sets).getD i [] = rowL n s (c.getD s 0) := by
    intro i hi
    obtain ⟨s, hs⟩ : ∃ s, sets[i]? = some s := ⟨_, List.getElem?_eq_getElem (by omega)⟩
    exact ⟨s, by unfold sysC; rw [List.getD_eq_getElem?_getD, List.getElem?_map, hs]; rfl⟩
  refine ⟨fun i j hi hj => ?_, fun i hi => ?_⟩
  · obtain ⟨s, hs⟩ := e i hi
    unfold entry
    rw [hs, rowL_get n s _ j hj]
    rcases bitI_cases s j with h | h <;> rw [h] <;> decide
  · obtain ⟨s, hs⟩ := e i hi
    unfold entry
    rw [hs, rowL_last]
    have := costs_get hc s
    omega
theorem sty_sys : STy 88 22 (.slice none 0 0) 1 24 := ⟨Try.underlying88, info_ints, rfl, by decide, by decide⟩

theorem at_far {w : World} {A : Option Addr} {cs : List Value} (h : At w A cs) {p : Addr} (hp : ∀ ad, A = some ad → ad.block ≠ p.block) (v : Value) : At (w.setCell p v) A cs := by
  intro i u hu
  obtain ⟨ad, hA, hc⟩ := h i u hu
  refine ⟨ad, hA, ?_⟩
  rw [World.cell?_of_block (w := w) (Below.heap_setCell w p v _ (by rw [add_block]; exact hp ad hA))]
  exact hc
/-- What the function leaves. -/
def Core1Post (c : List Int) (n Bf : Nat) (sets : List Nat) (w : World) (e : Ending) (w' : World) : Prop :=
  Kept w.heap.size [Bf] w w' ∧ ((cand c n sets = none ∧ e = .returned (.bool true) ∧ Blk w' Bf 23 #[.slice none 0 0]) ∨
    ∃ qs A' c', cand c n sets = some qs ∧ e = .returned (.bool false) ∧ Blk w' Bf 23 #[.slice A' n c'] ∧ qs.length = n ∧ Fracs w' A' qs ∧ n ≤ c' ∧ c' ≤ 9223372036854775807)

set_option maxRecDepth 100000 in
set_option maxHeartbeats 3200000 in
theorem core1_any (A0 : Option Addr) (N cap0 n : Nat) (c : List Int) (Bc Bk Bf : Nat) (A : Option Addr) (cs : Nat) (sets : List Nat) (w : World)
    (hc : Ints w A0 c) (hl : c.length = N) (hv : valC c = true) (hn : plr c = n) (hsl : sets.length = n) (hsb : ∀ s ∈ sets, s < N) (hA : Ints w A (sets.map Int.ofNat))
    (bc : Blk w Bc 22 #[.slice A0 N cap0]) (bk : Blk w Bk 69 #[.slice A0 N cap0]) (bf : Blk w Bf 23 #[.slice none 0 0]) :
    Calls Try.prog 75 #[.slice A n cs, .pointer (some ⟨Bc, 0, none⟩), .pointer (some ⟨Bk, 0, none⟩), .pointer (some ⟨Bf, 0, none⟩)] w (Core1Post c n Bf sets w) := by
  have qT : ∀ (w : World) (a : Option Addr) (n c n' c' : Nat), (binOp .eql 23 (.slice a n c) (.slice none n' c')).run Try.prog w = .ok (.bool a.isNone) w := fun w a n c n' c' => Lib.run_eql_slice_nil w _ _ a n c n' c' Try.underlying23
  have hnp := plr_np hv
  rw [hl, hn] at hnp
  have hcb := (valC_iff.1 hv).2.2
  have hn4 : 1 ≤ n ∧ n ≤ 4 := by omega
  have hN : N = 2 ^ n := by rcases hnp with ⟨h1, h2⟩ | ⟨h1, h2⟩ | ⟨h1, h2⟩ | ⟨h1, h2⟩ <;> rw [h1, h2] <;> rfl
  obtain ⟨n1, hn1⟩ : ∃ n1, n1 = n - 1 := ⟨_, rfl⟩
  obtain ⟨N1, hN1⟩ : ∃ N1, N1 = N - 1 := ⟨_, rfl⟩
  obtain ⟨last, hlast⟩ : ∃ last, sets[n1]? = some last := ⟨_, List.getElem?_eq_getElem (by omega)⟩
  obtain ⟨ad, rfl, hcell⟩ := hA n1 (.int .i64 (last : Int)) (by rw [List.map_map, List.getElem?_map, hlast]; rfl)
  have o1 := bc.at1.1
  have o2 := bk.at1.1
  have o3 := bf.at1.1
  have en : IntKind.i64.wrap ((n : Int) - 1) = (n1 : Int) := by rw [IntWalk.i64_in _ (by omega)]; omega
  have eN : IntKind.i64.wrap ((N : Int) - 1) = (N1 : Int) := by rw [IntWalk.i64_in _ (by omega)]; omega
  have l1 : (n1 : Int) < (n : Int) := by omega
  have l2 : (0 : Int) ≤ (n1 : Int) := by omega
  have hgl : sets.getD (n - 1) 0 = last := by rw [← hn1, List.getD_eq_getElem?_getD, hlast]; rfl
  have hN16 : 2 ≤ N ∧ N ≤ 16 := by omega
  have H := Lib.hid (And.intro hc (And.intro hl (And.intro hv (And.intro hn (And.intro hsl (And.intro hsb (And.intro hA (And.intro bc (And.intro bk (And.intro bf (And.intro hnp (And.intro hcb (And.intro hN (And.intro hgl (And.intro hn1 hN1)))))))))))))))
  clear hc hl hv hn hsl hsb hA bc bk bf hnp hcb hN hgl hlast hn1 hN1
  go_enter Try.func75, Try.ntmps75
  go_wp2_with fail
  go_quiet (fail)
  by_cases hL : last = N1
  · have d1 : ((last : Int) != (N1 : Int)) = false := by simp [hL]
    have HL : Hid (sets.getD (n - 1) 0 = 2 ^ n - 1) := Lib.hid (by rw [H.out.2.2.2.2.2.2.2.2.2.2.2.2.2.1, hL, H.out.2.2.2.2.2.2.2.2.2.2.2.2.2.2.2, H.out.2.2.2.2.2.2.2.2.2.2.2.2.1])
    clear hL
    obtain ⟨w1, hw1⟩ : ∃ w1, w1 = w.drewN nq := ⟨_, rfl⟩
    have hb1 : Below w.heap.size w w1 := by rw [hw1]; exact below_drewN (Below.refl _ _) nq
    have H1 := Lib.hid hb1
    go_wp2_with fail
    rw [← hw1]
    clear hw1 hb1 o1 o2 o3 hcell
    go_loopw [6, 28] (fun mv iv wr => ∃ (i : Nat) (B : Option Addr) (bc : Nat) (vs : List Value), i ≤ n ∧ iv = .int .i64 i ∧ mv = .slice B i bc ∧ wr.ownsRow w.heap.size 22 1 (.slice B i bc) i vs ∧ ORows wr w.heap.size vs (sysC c n (sets.take i)) ∧ Below w.heap.size w wr) (fun _ iv _ => n - (intOf iv).toNat)
    case atStart => exact ⟨0, none, 0, [], Nat.zero_le _, rfl, rfl, World.ownsRow_nil _ _ _ _, ORows.nil _ _, H1.out⟩
    case round =>
      obtain ⟨i, B, bcap, vs, hi, rfl, rfl, hown, hrows, hbl⟩ := hrel
      obtain ⟨wo, rfl⟩ : ∃ wo : World, wo = wr := ⟨_, rfl⟩
      have HR := Lib.hid (And.intro hown (And.intro hrows hbl))
      have hwo := hbl.size
      clear hown hrows hbl
      by_cases hlt : i < n
      · obtain ⟨s, hs⟩ : ∃ s, sets[i]? = some s := ⟨_, List.getElem?_eq_getElem (by have := H.out.2.2.2.2.1; omega)⟩
        have hsN := H.out.2.2.2.2.2.1 s (List.mem_of_getElem? hs)
        obtain ⟨ad', had, hcs⟩ := H.out.2.2.2.2.2.2.1 i (.int .i64 (s : Int)) (by rw [List.map_map, List.getElem?_map, hs]; rfl)
        injection had with had
        subst had
        have hcs' := (HR.out.2.2.cell (lt_of_cell hcs)).trans hcs
        obtain ⟨x, hx⟩ : ∃ x, c[s]? = some x := ⟨_, List.getElem?_eq_getElem (by have := H.out.2.1; omega)⟩
        obtain ⟨ac, rfl, hcx⟩ := H.out.1 s (.int .i64 x) (by rw [List.getElem?_map, hx]; rfl)
        have hcx' := (HR.out.2.2.cell (lt_of_cell hcx)).trans hcx
        have p1 := ((H.out.2.2.2.2.2.2.2.1.below HR.out.2.2 H.out.2.2.2.2.2.2.2.1.lt).at1).1
        have p2 := ((H.out.2.2.2.2.2.2.2.2.1.below HR.out.2.2 H.out.2.2.2.2.2.2.2.2.1.lt).at1).1
        have l3 : (i : Int) < (n : Int) := by omega
        have l4 : (0 : Int) ≤ (s : Int) := by omega
        have l5 : (s : Int) < (N : Int) := by omega
        have hnew : sysC c n (sets.take (i + 1)) = sysC c n (sets.take i) ++ [rowL n s x] := by
          unfold sysC
          rw [List.take_add_one, hs, List.map_append]
          have : c.getD s 0 = x := by rw [List.getD_eq_getElem?_getD, hx]; rfl
          show _ ++ [rowL n s (c.getD s 0)] = _
          rw [this]
        have HN := Lib.hid (And.intro hnew (rowL_length n s x))
        clear hs hcs hx hnew
        go_wp2_with fail
        have HCR := Lib.hid (fun w' => crow_any (some ac) N cap0 n s x w' H.out.2.2.2.2.2.2.2.2.2.2.1 (by omega))
        have hst : ∀ (w3 : World) (g3 c3 : Nat), w3.ownsRow wo.drew.heap.size 3 1 (.slice (some ⟨g3, 0, none⟩) (n + 1) c3) (n + 1) ((rowL n s x).map (Value.int .i64)) → Below wo.drew.heap.size wo.drew w3 →
            w3.ownsRow w.heap.size 22 1 (.slice B i bcap) i vs ∧ ORows w3 w.heap.size (vs ++ [.slice (some ⟨g3, 0, none⟩) (n + 1) c3]) (sysC c n (sets.take (i + 1))) ∧ Below w.heap.size w w3 ∧ w.heap.size ≤ w3.heap.size := by
          intro w3 g3 c3 hown3 hb3
          have hb3' : Below wo.heap.size wo w3 := (below_drewN (Below.refl _ wo) 1).trans hb3
          have hown3' : w3.ownsRow wo.heap.size 3 1 (.slice (some ⟨g3, 0, none⟩) (rowL n s x).length c3) (rowL n s x).length ((rowL n s x).map (Value.int .i64)) := by rw [HN.out.2]; exact hown3
          have hor := (HR.out.2.1.below hb3').snoc (b2 := wo.heap.size) hwo hown3' (HR.out.2.1.lt)
          rw [← HN.out.1, HN.out.2] at hor
          exact ⟨own_below HR.out.1 hb3', hor, HR.out.2.2.trans (hb3'.mono hwo), by have := hb3'.size; omega⟩
        have HST := Lib.hid hst
        have hkp : ∀ w3, Below w.heap.size w w3 → w3.cell? ⟨Bk, 0, none⟩ = some (.slice (some ac) N cap0) ∧ w3.cell? ⟨Bc, 0, none⟩ = some (.slice (some ac) N cap0) ∧ w3.cell? (ac.add s) = some (.int .i64 x) := fun w3 hb3 =>
          ⟨((H.out.2.2.2.2.2.2.2.2.1.below hb3 H.out.2.2.2.2.2.2.2.2.1.lt).at1).1, ((H.out.2.2.2.2.2.2.2.1.below hb3 H.out.2.2.2.2.2.2.2.1.lt).at1).1, (hb3.cell (lt_of_cell hcx)).trans hcx⟩
        have HKP := Lib.hid hkp
        clear hst hkp hcx
        go_region_held3 (fun w' => w'.cell? ⟨Bk, 0, none⟩ = some (.slice (some ac) N cap0) ∧ w'.cell? ⟨Bc, 0, none⟩ = some (.slice (some ac) N cap0) ∧ w'.cell? (ac.add s) = some (.int .i64 x))
          (first | exact HKP.out _ (hq3.2.2.1.trans hbl4) | exact HKP.out _ hq3.2.2.1 | go_keep)
          (first
            | (go_at_call 76; refine (HCR.out _).mono ?_; rintro e w3 ⟨g3, c3, rfl, hown3, hb3⟩; have hq3 := HST.out w3 g3 c3 hown3 hb3)
            | (refine step_app1 (w := w3) sty_sys (by rfl) (.tmp 32) (.tmp 40) (by rfl) w.heap.size B i bcap vs #[.slice (some ⟨g3, 0, none⟩) (n + 1) c3] (by rfl) (by simp [Value.oneCell']) (by rfl) hq3.1 (by rfl) (by omega) hq3.2.2.2 ?_; intro A4 k4 w4 hown4 hg4 hbl4 hk41 hk42))
        have H3 := Lib.hid hq3
        have hor4 := H3.out.2.1.grown H3.out.1 hg4
        have H4 := Lib.hid (And.intro hown4 (And.intro hor4 (H3.out.2.2.1.trans hbl4)))
        clear hown4 hg4 hbl4 hor4 hq3 hown3 hb3
        go_wp2_with fail
        go_roundw
        case rel =>
          (repeat apply Exists.intro)
          refine ⟨⟨i + 1, by omega, ?e1, A4, k4, ?e2, _, H4.out⟩, rfl, rfl, rfl⟩
          case e1 => go_num
          case e2 => rfl
        case measure =>
          show n - ((i : Int) + 1).toNat < n - ((i : Int)).toNat
          omega
      · obtain rfl : i = n := by omega
        have hT : sets.take i = sets := List.take_of_length_le (by rw [H.out.2.2.2.2.1]; exact Nat.le_refl _)
        have hrows' := HR.out.2.1
        rw [hT] at hrows'
        obtain ⟨g, rfl, _, _⟩ := own_some HR.out.1 hn4.1
        obtain ⟨R, C, hM, hg, hRb⟩ := mtx_of HR.out.1 hrows' (by unfold sysC; rw [List.length_map]; exact H.out.2.2.2.2.1) (fun r hr => by
          unfold sysC at hr
          obtain ⟨s, _, rfl⟩ := List.mem_map.1 hr
          exact rowL_length _ _ _)
        have hSM := safe_of hn4.2 (sysC_bd H.out.2.2.2.2.2.2.2.2.2.2.2.1 i sets H.out.2.2.2.2.1)
        have HM := Lib.hid (And.intro hM (And.intro hRb hSM))
        clear hT hrows' hM hRb hSM
        go_wp2_with fail
        refine (solve_any g bcap i R C (entry (sysC c i sets)) w.heap.size wo hn4 HM.out.1 hg HM.out.2.1 HM.out.2.2 hwo).mono ?_
        rintro e w5 (⟨hno, rfl, hb5⟩ | ⟨h, l, D, dc, hso, rfl, hown5, hb5⟩)
        · have HF : Hid (cand c i sets = none ∧ Below w.heap.size w w5) := Lib.hid ⟨by unfold cand; rw [if_pos HL.out, hno], HR.out.2.2.trans hb5⟩
          clear hno hb5
          go_wp2_with fail
          go_ret
          exact ⟨Kept.of_below HF.out.2 _, .inl ⟨HF.out.1, rfl, H.out.2.2.2.2.2.2.2.2.2.1.below HF.out.2 H.out.2.2.2.2.2.2.2.2.2.1.lt⟩⟩
        · have hsf := HM.out.2.2 i h l (Nat.le_refl _) hso
          have hl0 := hsf.1
          have hl1 := hsf.2.1
          have hl2 := hsf.2.2.1
          have hAt5 : At w5 D ((List.range i).map fun i' => .int .i64 (h i' i)) := At.of_own hown5
          have H5 := Lib.hid (And.intro hso (And.intro hAt5 (And.intro (HR.out.2.2.trans hb5) (And.intro hsf hown5))))
          have hw5 := (HR.out.2.2.trans hb5).size
          have dl0 : (l == 0) = false := by rw [beq_eq_false_iff_ne]; exact hl0
          obtain ⟨ma, hma⟩ : ∃ ma, ma = max l (-l) := ⟨_, rfl⟩
          have hma1 : 0 < ma ∧ ma ≤ 100000000 := by omega
          have emn : IntKind.i64.wrap (-l) = -l := IntWalk.i64_in _ (by omega)
          have HMA := Lib.hid hma
          have hql : ∀ k, k < i → (solL h l i)[k]? = some (solQ (h k i) l) := fun k hk => by unfold solL; simp [hk]
          have HQL := Lib.hid (And.intro hql (show (solL h l i).length = i by simp [solL]))
          clear hso hAt5 hb5 hsf hown5 hma hql
          go_wp2_with fail
          go_loopw [11, 52] (fun ov iv wr => ∃ (k : Nat) (D2 : Option Addr) (c2 : Nat), k ≤ i ∧ iv = .int .i64 k ∧ ov = .slice D2 k c2 ∧ wr.ownsRow w5.heap.size 31 2 (.slice D2 k c2) k (fcells ((solL h l i).take k)) ∧ Below w5.heap.size w5 wr) (fun _ iv _ => i - (intOf iv).toNat)
          case atStart => exact ⟨0, none, 0, Nat.zero_le _, rfl, rfl, by simpa [fcells] using World.ownsRow_nil _ _ _ _, Below.refl _ _⟩
          case round =>
            obtain ⟨k, D2, c2, hk, rfl, rfl, hown, hbl⟩ := hrel
            obtain ⟨wp, rfl⟩ : ∃ wp : World, wp = wr := ⟨_, rfl⟩
            have HP := Lib.hid (And.intro hown hbl)
            have hwp := hbl.size
            clear hown hbl
            by_cases hki : k < i
            · obtain ⟨dd, rfl, hcd⟩ := H5.out.2.1 k (.int .i64 (h k i)) (by simp [hki])
              have hcd' := (HP.out.2.cell (lt_of_cell hcd)).trans hcd
              have hxb := H5.out.2.2.2.1.2.2.2 k i hki (Nat.le_refl _)
              have hq := HQL.out.1 k hki
              have HNEW : Hid (∀ q, q = solQ (h k i) l → fcells ((solL h l i).take (k + 1)) = fcells ((solL h l i).take k) ++ [.int .i64 q.num, .int .i64 (q.den : Int)]) := Lib.hid (by
                rintro q rfl
                rw [List.take_add_one, hq]; exact fcells_snoc _ _)
              obtain ⟨x, hx⟩ : ∃ x, x = h k i := ⟨_, rfl⟩
              rw [← hx] at hcd' hxb HNEW
              have l3 : (k : Int) < (i : Int) := by omega
              have enx : IntKind.i64.wrap (-x) = -x := IntWalk.i64_in _ (by omega)
              clear hcd hq hx
              by_cases hneg : l < 0
              · have HX : Hid (solQ x l = Rat.divInt (-x) (-l)) := Lib.hid (by unfold solQ; rw [if_pos hneg, show max l (-l) = -l from by omega])
                have d2 : decide (l < 0) = true := decide_eq_true hneg
                go_wp2_with fail
                refine (gfrac_any (-x) (-l) wp (by omega) (by omega) (by omega) (by omega)).mono ?_
                rintro e w6 ⟨rfl, hb6⟩
                rw [← HX.out]
                have HNW := Lib.hid (HNEW.out _ rfl)
                generalize solQ x l = q at HNW ⊢
                have hown6 := own_below HP.out.1 hb6
                have H6 := Lib.hid (And.intro hown6 (HP.out.2.trans (hb6.mono hwp)))
                have hw6 : w5.heap.size ≤ w6.heap.size := by have := hb6.size; omega
                clear hown6 hb6
                unfold fr
                go_wp2_with (at_builtin; refine app1 sty_frac rfl _ _ rfl w5.heap.size D2 k c2 _ #[.int .i64 q.num, .int .i64 (q.den : Int)] rfl (by simp [Value.oneCell']) rfl H6.out.1 rfl (by omega) hw6 ?_)
                intro A4 k4 w7 hown7 _ hbl7 hk71 hk72
                rw [← HNW.out] at hown7
                have H7 := Lib.hid (And.intro hown7 (H6.out.2.trans hbl7))
                clear hown7 hbl7
                go_wp2_with fail
                go_roundw
                case rel => exact ⟨k + 1, A4, k4, by omega, by go_num, rfl, H7.out.1, H7.out.2⟩
                case measure => simp [intOf]; omega
              · have HX : Hid (solQ x l = Rat.divInt x l) := Lib.hid (by unfold solQ; rw [if_neg hneg, show max l (-l) = l from by omega])
                have d2 : decide (l < 0) = false := decide_eq_false hneg
                go_wp2_with fail
                refine (gfrac_any (x) (l) wp (by omega) (by omega) (by omega) (by omega)).mono ?_
                rintro e w6 ⟨rfl, hb6⟩
                rw [← HX.out]
                have HNW := Lib.hid (HNEW.out _ rfl)
                generalize solQ x l = q at HNW ⊢
                have hown6 := own_below HP.out.1 hb6
                have H6 := Lib.hid (And.intro hown6 (HP.out.2.trans (hb6.mono hwp)))
                have hw6 : w5.heap.size ≤ w6.heap.size := by have := hb6.size; omega
                clear hown6 hb6
                unfold fr
                go_wp2_with (at_builtin; refine app1 sty_frac rfl _ _ rfl w5.heap.size D2 k c2 _ #[.int .i64 q.num, .int .i64 (q.den : Int)] rfl (by simp [Value.oneCell']) rfl H6.out.1 rfl (by omega) hw6 ?_)
                intro A4 k4 w7 hown7 _ hbl7 hk71 hk72
                rw [← HNW.out] at hown7
                have H7 := Lib.hid (And.intro hown7 (H6.out.2.trans hbl7))
                clear hown7 hbl7
                go_wp2_with fail
                go_roundw
                case rel => exact ⟨k + 1, A4, k4, by omega, by go_num, rfl, H7.out.1, H7.out.2⟩
                case measure => simp [intOf]; omega
            · obtain rfl : k = i := by omega
              have hT : (solL h l k).take k = solL h l k := List.take_of_length_le (by rw [HQL.out.2]; exact Nat.le_refl _)
              have hF : Fracs wp D2 (solL h l k) := by
                have := At.of_own HP.out.1
                rwa [hT] at this
              obtain ⟨hc21, hc22⟩ : k ≤ c2 ∧ c2 ≤ 9223372036854775807 := by
                obtain ⟨_, _, he, h1, h2, _⟩ := own_form HP.out.1
                injection he with _ _ he
                subst he
                exact ⟨h1, h2⟩
              obtain ⟨dd2, hdd2⟩ : ∃ dd2, D2 = some dd2 := by
                cases D2 with
                | some d => exact ⟨d, rfl⟩
                | none =>
                  rcases HP.out.1.2 with ⟨_, h0⟩ | ⟨g', _, _, hv', _⟩
                  · omega
                  · injection hv' with hv'; cases hv'
              subst hdd2
              have hprs : Prs wp (some dd2) ((solL h l k).map pr) := by unfold Prs; rw [pcells_fr]; exact hF
              have hbw : Below w.heap.size w wp := H5.out.2.2.1.trans (HP.out.2.mono hw5)
              have p1 := ((H.out.2.2.2.2.2.2.2.1.below hbw H.out.2.2.2.2.2.2.2.1.lt).at1).1
              have hrng : ∀ p ∈ (solL h l k).map pr, (-9223372036854775808 ≤ p.1 ∧ p.1 ≤ 9223372036854775807) ∧ -9223372036854775808 ≤ p.2 ∧ p.2 ≤ 9223372036854775807 := by
                intro p hp
                obtain ⟨q, hq, rfl⟩ := List.mem_map.1 hp
                obtain ⟨i', hi', rfl⟩ := List.mem_map.1 hq
                have hb := H5.out.2.2.2.1.2.2.2 i' k (List.mem_range.1 hi') (Nat.le_refl _)
                have hm : 0 < max l (-l) ∧ max l (-l) ≤ 100000000 := by omega
                have hx : -100000000 ≤ (if l < 0 then -(h i' k) else h i' k) ∧ (if l < 0 then -(h i' k) else h i' k) ≤ 100000000 := by split <;> omega
                have h1 := divInt_bd hm.1 hx.1 hx.2
                have h2 := divInt_den_le (a := if l < 0 then -(h i' k) else h i' k) hm.1
                have h3 := den_pos (solQ (h i' k) l)
                unfold pr
                unfold solQ at h3 ⊢
                exact ⟨⟨by omega, by omega⟩, by simp only; omega, by simp only; omega⟩
              have HFR := Lib.hid (And.intro hF (And.intro hprs (And.intro hbw (And.intro hrng (And.intro HQL.out.2 (H.out.1.below hbw))))))
              clear hT hF hprs hbw hrng
              go_wp2_with fail
              refine (checkcore_any A0 N cap0 (some dd2) k c2 c ((solL h l k).map pr) wp H.out.2.1 (by omega) (by rw [List.length_map]; exact HFR.out.2.2.2.2.1) (by omega) HFR.out.2.2.2.2.2 HFR.out.2.1 HFR.out.2.2.2.1).mono ?_
              rintro e w8 ⟨rfl, hb8⟩
              obtain ⟨ok, hok⟩ : ∃ ok, ok = ccB c ((solL h l k).map pr) := ⟨_, rfl⟩
              rw [← hok]
              have hbw8 : Below w.heap.size w w8 := HFR.out.2.2.1.trans (hb8.mono (HFR.out.2.2.1.size))
              have hbf8 := H.out.2.2.2.2.2.2.2.2.2.1.below hbw8 H.out.2.2.2.2.2.2.2.2.2.1.lt
              obtain ⟨f1, f2⟩ := hbf8.at1
              have H8 := Lib.hid (And.intro hok (And.intro hbw8 (And.intro hbf8 (HFR.out.1.below hb8))))
              clear hok hbw8 hbf8 hb8
              cases ok
              · have HF : Hid (cand c k sets = none) := Lib.hid (by unfold cand; rw [if_pos HL.out, H5.out.1]; simp only; rw [← H8.out.1]; rfl)
                go_wp2_with fail
                go_ret
                exact ⟨Kept.of_below H8.out.2.1 _, .inl ⟨HF.out, rfl, H8.out.2.2.1⟩⟩
              · have HF : Hid (cand c k sets = some (solL h l k)) := Lib.hid (by unfold cand; rw [if_pos HL.out, H5.out.1]; simp only; rw [← H8.out.1]; rfl)
                go_wp2_with fail
                go_ret
                refine ⟨(Kept.of_below H8.out.2.1 _).setCell (.inl (by simp)) _, .inr ⟨solL h l k, some dd2, c2, HF.out, rfl, H8.out.2.2.1.set_ 0 _, HFR.out.2.2.2.2.1, ?_, hc21, hc22⟩⟩
                refine at_far H8.out.2.2.2 (fun ad' had' => ?_) _
                injection had' with had'
                subst had'
                have h1 := (HP.out.1.lt dd2.block rfl).1
                have h2 := H.out.2.2.2.2.2.2.2.2.2.1.lt
                show dd2.block ≠ Bf
                omega
  · have d1 : ((last : Int) != (N1 : Int)) = true := by rw [bne_iff_ne]; omega
    have HF : Hid (cand c n sets = none) := Lib.hid (by
      unfold cand
      rw [if_neg]
      rw [H.out.2.2.2.2.2.2.2.2.2.2.2.2.2.1, ← H.out.2.2.2.2.2.2.2.2.2.2.2.2.1, ← H.out.2.2.2.2.2.2.2.2.2.2.2.2.2.2.2]
      exact hL)
    clear hL
    go_wp2_with fail
    go_ret
    exact ⟨(Kept.refl _ _ _).drewN _, .inl ⟨HF.out, rfl, H.out.2.2.2.2.2.2.2.2.2.1.drewN _⟩⟩

/- Sums over lists of sets; sets that span and sets that stand alone. Plain Lean. -/

def sumL (f : Nat → Rat) : List Nat → Rat
  | [] => 0
  | a :: l => f a + sumL f l
theorem sumL_congr {f g : Nat → Rat} {P : List Nat} (h : ∀ s ∈ P, f s = g s) : sumL f P = sumL g P := by
  induction P with
  | nil => rfl
  | cons a P ih => simp only [sumL]; rw [h a (List.mem_cons_self ..), ih fun s hs => h s (List.mem_cons_of_mem _ hs)]
theorem sumL_zero {f : Nat → Rat} {P : List Nat} (h : ∀ s ∈ P, f s = 0) : sumL f P = 0 := by
  induction P with
  | nil => rfl
  | cons a P ih => simp only [sumL]; rw [h a (List.mem_cons_self ..), ih fun s hs => h s (List.mem_cons_of_mem _ hs)]; grind
theorem sumL_add (f g : Nat → Rat) (P : List Nat) : sumL (fun s => f s + g s) P = sumL f P + sumL g P := by
  induction P with
  | nil => simp only [sumL]; grind
  | cons a P ih => simp only [sumL]; rw [ih]; grind
theorem sumL_mul (a : Rat) (f : Nat → Rat) (P : List Nat) : sumL (fun s => a * f s) P = a * sumL f P := by
  induction P with
  | nil => simp [sumL]
  | cons b P ih => simp only [sumL]; rw [ih]; grind
theorem sumL_perm {f : Nat → Rat} {P Q : List Nat} (h : P.Perm Q) : sumL f P = sumL f Q := by
  induction h with
  | nil => rfl
  | cons a _ ih => simp only [sumL]; rw [ih]
  | swap a b l => simp only [sumL]; grind
  | trans _ _ ih1 ih2 => exact ih1.trans ih2
theorem sumL_erase (f : Nat → Rat) {P : List Nat} {s : Nat} (h : s ∈ P) : sumL f P = f s + sumL f (P.erase s) := by
  rw [sumL_perm (List.perm_cons_erase h)]; rfl
theorem sumL_append (f : Nat → Rat) (P Q : List Nat) : sumL f (P ++ Q) = sumL f P + sumL f Q := by
  induction P with
  | nil => simp only [sumL, List.nil_append]; grind
  | cons a P ih => simp only [sumL, List.cons_append]; rw [ih]; grind
theorem sumL_le {f g : Nat → Rat} {P : List Nat} (h : ∀ s ∈ P, f s ≤ g s) : sumL f P ≤ sumL g P := by
  induction P with
  | nil => simp [sumL]
  | cons a P ih =>
    simp only [sumL]
    have h1 := h a (List.mem_cons_self ..)
    have h2 := ih fun s hs => h s (List.mem_cons_of_mem _ hs)
    grind
theorem sumLQ (g : Nat → Nat → Rat) (P : List Nat) (n : Nat) : sumQ (fun i => sumL (g i) P) n = sumL (fun s => sumQ (fun i => g i s) n) P := by
  induction n with
  | zero => simp only [sumQ]; rw [sumL_zero]; intros; rfl
  | succ n ih => simp only [sumQ]; rw [ih, ← sumL_add]
theorem sumL_get (f : Nat → Rat) (P : List Nat) : sumL f P = sumQ (fun j => f (P.getD j 0)) P.length := by
  have key : ∀ P : List Nat, sumL f P.reverse = sumQ (fun j => f (P.reverse.getD j 0)) P.length := by
    intro P
    induction P with
    | nil => rfl
    | cons a P ih =>
      rw [List.reverse_cons, sumL_append, List.length_cons, sumQ, ih]
      congr 1
      · refine sumQ_congr fun j hj => ?_
        rw [List.getD_eq_getElem?_getD, List.getD_eq_getElem?_getD, List.getElem?_append_left (by simpa using hj)]
      · rw [List.getD_eq_getElem?_getD, List.getElem?_append_right (by simp)]
        simp only [List.length_reverse, Nat.sub_self, sumL, List.getElem?_cons_zero, Option.getD_some]
        grind
  have := key P.reverse
  rwa [List.reverse_reverse, List.length_reverse] at this
/-- The bit of a set, as a fraction. -/
def bq (s i : Nat) : Rat := (bitI s i : Rat)
/-- A set's part of d. -/
def dotS (n : Nat) (d : Nat → Rat) (s : Nat) : Rat := sumQ (fun i => bq s i * d i) n
/-- Each player's sum over the sets. -/
def colS (m : Nat → Rat) (P : List Nat) (i : Nat) : Rat := sumL (fun s => m s * bq s i) P
theorem dot_col (n : Nat) (d m : Nat → Rat) (P : List Nat) : sumL (fun s => m s * dotS n d s) P = sumQ (fun i => d i * colS m P i) n := by
  have e1 : ∀ s, m s * dotS n d s = sumQ (fun i => d i * (m s * bq s i)) n := fun s => by
    unfold dotS
    rw [← sumQ_mul]
    exact sumQ_congr fun i _ => by grind
  simp only [e1]
  rw [← sumLQ]
  refine sumQ_congr fun i _ => ?_
  unfold colS
  rw [← sumL_mul]
theorem dot_add (n : Nat) (d e : Nat → Rat) (t : Rat) (s : Nat) : dotS n (fun i => d i + t * e i) s = dotS n d s + t * dotS n e s := by
  unfold dotS
  rw [← sumQ_mul, ← sumQ_add]
  exact sumQ_congr fun i _ => by grind
theorem nodup_idx {P : List Nat} (hd : P.Nodup) {j : Nat} (hj : j < P.length) : P.idxOf (P.getD j 0) = j := by
  rw [List.getD_eq_getElem?_getD, List.getElem?_eq_getElem hj, Option.getD_some]
  exact hd.idxOf_getElem j hj
/-- More sets than players: some of them cancel. -/
theorem null_sets {n : Nat} {P : List Nat} (hd : P.Nodup) (h : n < P.length) : ∃ m : Nat → Rat, (∃ s ∈ P, m s ≠ 0) ∧ ∀ i, i < n → colS m P i = 0 := by
  obtain ⟨x, ⟨j, hj, hx⟩, hs⟩ := null_exists n P.length h (fun i j => bq (P.getD j 0) i)
  refine ⟨fun s => x (P.idxOf s), ⟨P.getD j 0, ?_, ?_⟩, fun i hi => ?_⟩
  · rw [List.getD_eq_getElem?_getD, List.getElem?_eq_getElem hj]; exact List.getElem_mem hj
  · dsimp only; rw [nodup_idx hd hj]; exact hx
  · unfold colS
    rw [sumL_get, ← hs i hi]
    refine sumQ_congr fun j hj => ?_
    dsimp only
    rw [nodup_idx hd hj]
    grind
/-- Fewer sets than players: some direction is seen by none. -/
theorem null_dir {n : Nat} {P : List Nat} (h : P.length < n) : ∃ d : Nat → Rat, (∃ i, i < n ∧ d i ≠ 0) ∧ ∀ s ∈ P, dotS n d s = 0 := by
  obtain ⟨x, hx, hs⟩ := null_exists P.length n h (fun j i => bq (P.getD j 0) i)
  refine ⟨x, hx, fun s hs' => ?_⟩
  obtain ⟨j, hj, rfl⟩ := List.getElem_of_mem hs'
  have := hs j hj
  rw [List.getD_eq_getElem?_getD, List.getElem?_eq_getElem hj] at this
  exact this
/-- No direction but 0 is seen by none of the sets. -/
def Spn (n : Nat) (P : List Nat) : Prop := ∀ d, (∀ s ∈ P, dotS n d s = 0) → ∀ i, i < n → d i = 0
theorem spn_shrink {n S0 : Nat} (hn : 1 ≤ n) (h0 : ∀ i, i < n → bq S0 i = 1) : ∀ (k : Nat) (P : List Nat), P.length = n + k → P.Pairwise (· < ·) → S0 ∈ P → Spn n P → ∃ Q : List Nat, Q.length = n ∧ Q.Pairwise (· < ·) ∧ S0 ∈ Q ∧ Spn n Q ∧ ∀ s ∈ Q, s ∈ P := by
  intro k
  induction k with
  | zero => intro P hl hp hS hs; exact ⟨P, hl, hp, hS, hs, fun s h => h⟩
  | succ k ih =>
    intro P hl hp hS hs
    have hd : P.Nodup := hp.imp (fun h => Nat.ne_of_lt h)
    obtain ⟨m, ⟨s1, hs1, hm1⟩, hc⟩ := null_sets hd (show n < P.length by omega)
    obtain ⟨s, hsP, hms, hne⟩ : ∃ s, s ∈ P ∧ m s ≠ 0 ∧ s ≠ S0 := by
      apply Decidable.byContradiction
      intro hno
      have hz : ∀ s ∈ P, s ≠ S0 → m s = 0 := fun s h1 h2 => Decidable.byContradiction fun h3 => hno ⟨s, h1, h3, h2⟩
      have hm0 : m S0 ≠ 0 := by
        intro h
        by_cases e : s1 = S0
        · rw [e] at hm1; exact hm1 h
        · exact hm1 (hz s1 hs1 e)
      have h2 := hc 0 (by omega)
      unfold colS at h2
      rw [sumL_erase _ hS, sumL_zero (fun s hs => by rw [hz s (List.mem_of_mem_erase hs) (fun e => by rw [e] at hs; exact hd.not_mem_erase hs)]; grind), h0 0 (by omega)] at h2
      apply hm0
      grind
    have hsp : Spn n (P.erase s) := by
      intro d hdz
      apply hs
      intro s' hs'
      by_cases e : s' = s
      · have h1 := dot_col n d m P
        rw [sumQ_zero (fun i hi => by rw [hc i hi]; grind), sumL_erase _ hsP, sumL_zero (fun s hs => by rw [hdz s hs]; grind)] at h1
        have h2 : m s * dotS n d s = 0 := by grind
        rw [e]
        rcases Rat.mul_eq_zero.1 h2 with h3 | h3
        · exact absurd h3 hms
        · exact h3
      · exact hdz s' ((List.mem_erase_of_ne e).2 hs')
    obtain ⟨Q, h1, h2, h3, h4, h5⟩ := ih (P.erase s) (by rw [List.length_erase_of_mem hsP]; omega) (hp.sublist List.erase_sublist) ((List.mem_erase_of_ne (fun e => hne e.symm)).2 hS) hsp
    exact ⟨Q, h1, h2, h3, h4, fun x hx => List.mem_of_mem_erase (h5 x hx)⟩
theorem spn_length {n : Nat} {P : List Nat} (h : Spn n P) : n ≤ P.length := by
  apply Decidable.byContradiction
  intro h1
  obtain ⟨d, ⟨i, hi, hne⟩, hz⟩ := null_dir (n := n) (P := P) (by omega)
  exact hne (h d hz i hi)

/- A function with a body is entered. -/

/-- K is a function with a body. -/
def EntF (K : FuncId) : Prop := ∀ (args : Array Value) (w : World), (callFunc K args).run Try.prog w = .ok (.enter K args) w
theorem entF_of {K : FuncId} {fn : Func} (hf : Try.prog.funcs[K]? = some fn) (hn : (fn.name == "runtime.NumGoroutine") = false) (hb : fn.body.isNone = false) : EntF K := by
  intro args w
  have hn' : fn.name ≠ "runtime.NumGoroutine" := by simpa using hn
  have hb' : fn.body ≠ none := by intro h; rw [h] at hb; cases hb
  simp [callFunc, Sem.run_bind, hf, go_sem]
  rw [if_neg hn', if_neg hb']

/- Contract: tight of package games, for whatever function it is called with. -/

/-- All rising lists that go on from a beginning. -/
def cmbs (N : Nat) : Nat → Nat → List Nat → List (List Nat)
  | 0, _, pre => [pre]
  | m + 1, fr, pre => (List.range' fr (N - fr)).flatMap fun s => cmbs N m (s + 1) (pre ++ [s])
/-- .. up to the number i. -/
def cmbTo (N m fr : Nat) (pre : List Nat) (i : Nat) : List (List Nat) := (List.range' fr (i - fr)).flatMap fun s => cmbs N m (s + 1) (pre ++ [s])
theorem cmbs_eq (N m fr : Nat) (pre : List Nat) : cmbs N (m + 1) fr pre = cmbTo N m fr pre N := rfl
theorem cmbTo_succ {N m fr : Nat} {pre : List Nat} {i : Nat} (h : fr ≤ i) : cmbTo N m fr pre (i + 1) = cmbTo N m fr pre i ++ cmbs N m (i + 1) (pre ++ [i]) := by
  unfold cmbTo
  rw [show i + 1 - fr = (i - fr) + 1 from by omega, List.range'_1_concat, List.flatMap_append, show fr + (i - fr) = i from by omega]
  simp
theorem cmbTo_le (N m fr : Nat) (pre : List Nat) (i j : Nat) (h : i ≤ j) : cmbTo N m fr pre i <+: cmbTo N m fr pre j := by
  unfold cmbTo
  have e : List.range' fr (j - fr) = List.range' fr (i - fr) ++ List.range' (fr + (i - fr)) (j - fr - (i - fr)) := by
    rw [List.range'_append_1]
    congr 1
    omega
  rw [e, List.flatMap_append]
  exact List.prefix_append _ _
/-- The sets that are chosen, in order. -/
def cmb (N k : Nat) : List (List Nat) := cmbs N k 1 []

/-- What tight works on. -/
structure TX where
  B : Nat
  A0 : Option Addr
  N : Nat
  cap0 : Nat
  k : Nat
  K : FuncId
  caps : Array Value
  S : List Nat
def TX.gcaps (X : TX) : Array Value := #[.pointer (some ⟨X.B + 3, 0, none⟩), .pointer (some ⟨X.B + 1, 0, none⟩), .pointer (some ⟨X.B + 2, 0, none⟩), .pointer (some ⟨X.B, 0, none⟩), .pointer (some ⟨X.B + 4, 0, none⟩)]
/-- The fixed parts of memory. -/
structure TX.fix (X : TX) (w : World) : Prop where
  size : X.B + 5 ≤ w.heap.size
  bc : Blk w X.B 69 #[.slice X.A0 X.N X.cap0]
  bk : Blk w (X.B + 1) 3 #[.int .i64 X.k]
  bm : Blk w (X.B + 2) 39 #[.func (.func X.K) #[] X.caps]
  bg : Blk w (X.B + 4) 84 #[.func (.func 88) #[] X.gcaps]
/-- The sets so far. -/
def TX.pre (X : TX) (pre : List Nat) (w : World) : Prop := ∃ A k, Blk w (X.B + 3) 22 #[.slice A pre.length k] ∧ w.ownsRow (X.B + 5) 3 1 (.slice A pre.length k) pre.length (nats pre) ∧ pre.length ≤ k ∧ k ≤ 9223372036854775807

theorem TX.fix.kept {X : TX} {w w' : World} (h : X.fix w) (hS : ∀ x ∈ X.S, x < X.B) (hk : Kept (X.B + 5) ((X.B + 3) :: X.S) w w') : X.fix w' := by
  have k : ∀ (g : Nat) (t : TypeId) (cs : Array Value), Blk w g t cs → X.B ≤ g → g < X.B + 5 → g ≠ X.B + 3 → Blk w' g t cs := by
    intro g t cs hb h1 h2 h3
    refine hb.kept hk h2 ?_
    intro hm
    rcases List.mem_cons.1 hm with e | e
    · exact h3 e
    · have := hS g e; omega
  exact ⟨Nat.le_trans h.size hk.size, k _ _ _ h.bc (by omega) (by omega) (by omega), k _ _ _ h.bk (by omega) (by omega) (by omega), k _ _ _ h.bm (by omega) (by omega) (by omega), k _ _ _ h.bg (by omega) (by omega) (by omega)⟩

/-- What a call of the function must leave. -/
def MorePost (Inv : Nat → World → Prop) (Done : World → Prop) (S : List Nat) (t : Nat) (w : World) (e : Ending) (w' : World) : Prop :=
  Kept w.heap.size S w w' ∧ ((e = .returned (.bool true) ∧ Inv (t + 1) w') ∨ (e = .returned (.bool false) ∧ Done w'))
/-- What the inner function leaves. -/
def GrowPost (X : TX) (Inv : Nat → World → Prop) (Done : World → Prop) (pre : List Nat) (t len : Nat) (w : World) (e : Ending) (w' : World) : Prop :=
  Kept (X.B + 5) ((X.B + 3) :: X.S) w w' ∧ ((e = .returned (.bool true) ∧ Inv (t + len) w' ∧ X.pre pre w') ∨ (e = .returned (.bool false) ∧ Done w'))

set_option maxRecDepth 100000 in
set_option maxHeartbeats 800000 in
theorem tight1_any (X : TX) (Inv : Nat → World → Prop) (Done : World → Prop) (hS : ∀ x ∈ X.S, x < X.B) (hK : EntF X.K) (hN : X.N ≤ 16) (hk : 1 ≤ X.k ∧ X.k ≤ 4)
    (hkeep : ∀ t w1 w2, Inv t w1 → Below X.B w1 w2 → Inv t w2) (L : List (List Nat))
    (hcall : ∀ t w' A c sets, L[t]? = some sets → Inv t w' → Ints w' A (sets.map Int.ofNat) → X.k ≤ c → c ≤ 9223372036854775807 → X.B ≤ w'.heap.size → Calls Try.prog X.K (#[.slice A X.k c] ++ X.caps) w' (MorePost Inv Done X.S t w'))
    (m : Nat) : ∀ (fr : Nat) (pre : List Nat) (t : Nat) (w : World), pre.length + m = X.k → 1 ≤ fr → fr ≤ 16 → X.fix w → X.pre pre w → Inv t w → (∀ j s, (cmbs X.N m fr pre)[j]? = some s → L[t + j]? = some s) →
    Calls Try.prog 88 (#[.int .i64 fr] ++ X.gcaps) w (GrowPost X Inv Done pre t (cmbs X.N m fr pre).length w) := by
  unfold EntF at hK
  have HC := Lib.hid (And.intro hS (And.intro hkeep hcall))
  clear hS hkeep hcall
  induction m with
  | zero =>
    intro fr pre t w hpl hf1 hf16 hf hp hI hL
    obtain ⟨A, kc, hbo, hown, hk1, hk2⟩ := hp
    have hpk : pre.length = X.k := by omega
    rw [hpk] at hbo hown hk1
    have hl0 := hL 0 pre rfl
    have hInts : Ints w A (pre.map Int.ofNat) := by
      have := At.of_own hown
      unfold Ints
      rw [show (pre.map Int.ofNat).map (Value.int .i64) = nats pre from by simp [nats]]
      exact this
    have o1 := hbo.at1.1
    have o2 := hf.bk.at1.1
    have o3 := hf.bm.at1.1
    have hcl := HC.out.2.2 t w A kc pre hl0 hI hInts hk1 hk2 (by have := hf.size; omega)
    have H := Lib.hid (And.intro hcl (And.intro hf (And.intro hbo (And.intro hown (And.intro hk1 (And.intro hk2 hpk))))))
    clear hcl hf hbo hown hk1 hk2 hpk hl0 hInts hI hL hpl
    have e1 : ((X.k : Int) == (X.k : Int)) = true := by simp
    unfold TX.gcaps
    go_enter Try.func88, Try.ntmps88
    go_wp2_with fail
    refine H.out.1.mono ?_
    rintro e w' ⟨hkp, hres⟩
    obtain ⟨_, hf, hbo, hown, hk1, hk2, hpk⟩ := H.out
    have hkw : Kept (X.B + 5) ((X.B + 3) :: X.S) w w' := hkp.mono hf.size (fun x hx => .inl (List.mem_cons_of_mem _ hx))
    rcases hres with ⟨rfl, hI⟩ | ⟨rfl, hD⟩
    · have hpre : X.pre pre w' := by
        refine ⟨A, kc, ?_, ?_, by rw [hpk]; exact hk1, hk2⟩
        · rw [hpk]
          exact hbo.kept hkp hbo.lt (fun hm => by have := HC.out.1 _ hm; omega)
        · rw [hpk]
          exact own_kept hown fun g h1 h2 => hkp.block g h2 (fun hm => by have := HC.out.1 _ hm; omega)
      have HF := Lib.hid (And.intro hkw (And.intro hI hpre))
      clear hkp hI hpre hkw hf hbo hown
      go_wp2_with fail
      go_ret
      exact ⟨HF.out.1, .inl ⟨rfl, HF.out.2.1, HF.out.2.2⟩⟩
    · have HF := Lib.hid (And.intro hkw hD)
      clear hkp hD hkw hf hbo hown
      go_wp2_with fail
      go_ret
      exact ⟨HF.out.1, .inr ⟨rfl, HF.out.2⟩⟩
  | succ m ih =>
    intro fr pre t w hpl hf1 hf16 hf hp hI hL
    have IH := Lib.hid ih
    clear ih
    obtain ⟨A, kc, hbo, hown, hk1, hk2⟩ := hp
    have o1 := hbo.at1.1
    have o2 := hf.bk.at1.1
    have hne : ((pre.length : Int) == (X.k : Int)) = false := by rw [beq_eq_false_iff_ne]; omega
    have H := Lib.hid (And.intro hf (And.intro hbo (And.intro hown (And.intro hpl (And.intro hI hL)))))
    clear hf hbo hown hpl hI hL
    unfold TX.gcaps
    go_enter Try.func88, Try.ntmps88
    go_wp2_with fail
    go_loopw [8] (fun sv wr => ∃ s : Nat, fr ≤ s ∧ (s ≤ X.N ∨ s = fr) ∧ sv = .int .i64 s ∧ Kept (X.B + 5) ((X.B + 3) :: X.S) w wr ∧ Inv (t + (cmbTo X.N m fr pre s).length) wr ∧ X.pre pre wr) (fun sv _ => 17 - (intOf sv).toNat)
    case atStart =>
      exact ⟨fr, Nat.le_refl _, .inr rfl, rfl, Kept.refl _ _ _, by simpa [cmbTo] using H.out.2.2.2.2.1, ⟨A, kc, H.out.2.1, H.out.2.2.1, hk1, hk2⟩⟩
    case round =>
      obtain ⟨s, hfs, hsN, rfl, hkw, hI, hp⟩ := hrel
      obtain ⟨wo, rfl⟩ : ∃ wo : World, wo = wr := ⟨_, rfl⟩
      have hf2 := H.out.1.kept HC.out.1 hkw
      obtain ⟨A2, k2, hbo2, hown2, hk21, hk22⟩ := hp
      have q0 := hf2.bc.at1.1
      have q1 := hbo2.at1.1
      have q2 := hbo2.at1.2
      have HR := Lib.hid (And.intro hkw (And.intro hI (And.intro hbo2 (And.intro hown2 hf2))))
      have hbase := hf2.size
      clear hkw hI hbo2 hown2 hf2
      by_cases hlt : s < X.N
      · have l1 : (s : Int) < (X.N : Int) := by omega
        have hpl4 : pre.length ≤ 4 := by have := H.out.2.2.2.1; omega
        go_wp2_with (at_builtin; refine app1 sty_int rfl _ _ rfl (X.B + 5) A2 pre.length k2 (nats pre) #[.int .i64 (s : Int)] rfl (by simp [Value.oneCell']) rfl HR.out.2.2.2.1 rfl (by omega) hbase ?_)
        intro A3 k3 w3 hown3 _ hbl3 hk31 hk32
        have hbo3 : Blk w3 (X.B + 3) 22 #[.slice A2 pre.length k2] := HR.out.2.2.1.below hbl3 (by omega)
        obtain ⟨s1, s2⟩ := hbo3.at1
        have hbo4 := hbo3.set_ 0 (.slice A3 (pre.length + 1) k3)
        have K4 : Kept (X.B + 5) ((X.B + 3) :: X.S) wo (w3.setCell ⟨X.B + 3, 0, none⟩ (.slice A3 (pre.length + 1) k3)) := (Kept.of_below hbl3 _).setCell (.inl (by simp)) _
        have hB4 : Below X.B wo (w3.setCell ⟨X.B + 3, 0, none⟩ (.slice A3 (pre.length + 1) k3)) := (hbl3.mono (by omega)).setCell (by show X.B ≤ X.B + 3; omega) _
        have hf4 := HR.out.2.2.2.2.kept HC.out.1 K4
        obtain ⟨g1, g2⟩ := hf4.bg.at1
        have hpre : X.pre (pre ++ [s]) (w3.setCell ⟨X.B + 3, 0, none⟩ (.slice A3 (pre.length + 1) k3)) := by
          refine ⟨A3, k3, ?_, ?_, by simp; omega, hk32⟩
          · simpa using hbo4
          · rw [nats_snoc, List.length_append]
            exact own_setCell hown3 (by show X.B + 3 < X.B + 5; omega) _
        have hI4 := HC.out.2.1 _ _ _ HR.out.2.1 hB4
        have H4 := Lib.hid (And.intro hf4 (And.intro (HR.out.1.trans K4) (And.intro hI4 hpre)))
        unfold TX.gcaps at g1
        clear hown3 hbl3 hbo3 hbo4 K4 hB4 hf4 hpre hI4
        go_wp2_with fail
        refine (IH.out (s + 1) (pre ++ [s]) (t + (cmbTo X.N m fr pre s).length) _ (by simp; have := H.out.2.2.2.1; omega) (by omega) (by omega) H4.out.1 H4.out.2.2.2 H4.out.2.2.1 ?hL).mono ?_
        case hL =>
          intro j st hj
          rw [Nat.add_assoc]
          refine H.out.2.2.2.2.2 _ st ?_
          obtain ⟨T, hT⟩ := cmbTo_le X.N m fr pre (s + 1) X.N (by omega)
          rw [cmbs_eq, ← hT, cmbTo_succ hfs, List.append_assoc, List.getElem?_append_right (by omega), Nat.add_sub_cancel_left, List.getElem?_append_left (List.getElem?_eq_some_iff.1 hj).1]
          exact hj
        rintro e w5 ⟨hk5, hres⟩
        rcases hres with ⟨rfl, hI5, hp5⟩ | ⟨rfl, hD5⟩
        · obtain ⟨A6, k6, hbo6, hown6, hk61, hk62⟩ := hp5
          rw [List.length_append, List.length_singleton] at hbo6 hown6 hk61
          rw [nats_snoc] at hown6
          obtain ⟨t1, t2⟩ := hbo6.at1
          have H6 := Lib.hid (And.intro (H4.out.2.1.trans hk5) (And.intro hI5 (And.intro (own_pop hown6) hbo6)))
          clear hk5 hI5 hbo6 hown6
          go_wp2_with fail
          go_roundw
          case rel =>
            refine ⟨s + 1, by omega, .inl (by omega), by go_num, H6.out.1.setCell (.inl (by simp)) _, ?_, ⟨A6, k6, ?_, ?_, by omega, hk62⟩⟩
            · rw [cmbTo_succ hfs, List.length_append, ← Nat.add_assoc]
              exact HC.out.2.1 _ _ _ H6.out.2.1 ((Below.refl _ _).setCell (by show X.B ≤ X.B + 3; omega) _)
            · exact H6.out.2.2.2.set_ 0 _
            · exact own_setCell H6.out.2.2.1 (by show X.B + 3 < X.B + 5; omega) _
          case measure => simp [intOf]; omega
        · have H6 := Lib.hid (And.intro (H4.out.2.1.trans hk5) hD5)
          clear hk5 hD5
          go_wp2_with fail
          go_ret
          exact ⟨H6.out.1, .inr ⟨rfl, H6.out.2⟩⟩
      · have hT : cmbTo X.N m fr pre s = cmbs X.N (m + 1) fr pre := by
          rw [cmbs_eq]
          unfold cmbTo
          congr 2
          omega
        have HF : Hid (Kept (X.B + 5) ((X.B + 3) :: X.S) w wo ∧ Inv (t + (cmbs X.N (m + 1) fr pre).length) wo ∧ X.pre pre wo) := Lib.hid ⟨HR.out.1, by rw [← hT]; exact HR.out.2.1, ⟨A2, k2, HR.out.2.2.1, HR.out.2.2.2.1, hk21, hk22⟩⟩
        clear hT
        go_wp2_with fail
        go_ret
        exact ⟨HF.out.1, .inl ⟨rfl, HF.out.2.1, HF.out.2.2⟩⟩

/-- What tight leaves. -/
def TightPost (Inv : Nat → World → Prop) (Done : World → Prop) (S : List Nat) (len : Nat) (w : World) (e : Ending) (w' : World) : Prop :=
  e = .returned (.tuple #[]) ∧ Kept w.heap.size S w w' ∧ (Inv len w' ∨ Done w')

set_option maxRecDepth 100000 in
set_option maxHeartbeats 800000 in
theorem tight_any (A0 : Option Addr) (N cap0 k : Nat) (K : FuncId) (caps : Array Value) (S : List Nat) (w : World) (Inv : Nat → World → Prop) (Done : World → Prop) (hS : ∀ x ∈ S, x < w.heap.size) (hK : EntF K) (hN : N ≤ 16) (hk : 1 ≤ k ∧ k ≤ 4)
    (hst : Inv 0 w) (hkeep : ∀ t w1 w2, Inv t w1 → Below w.heap.size w1 w2 → Inv t w2)
    (hcall : ∀ t w' A c sets, (cmb N k)[t]? = some sets → Inv t w' → Ints w' A (sets.map Int.ofNat) → k ≤ c → c ≤ 9223372036854775807 → w.heap.size ≤ w'.heap.size → Calls Try.prog K (#[.slice A k c] ++ caps) w' (MorePost Inv Done S t w')) :
    Calls Try.prog 74 #[.slice A0 N cap0, .int .i64 k, .func (.func K) #[] caps] w (TightPost Inv Done S (cmb N k).length w) := by
  have H := Lib.hid (And.intro hS (And.intro hst (And.intro hkeep hcall)))
  clear hS hst hkeep hcall
  obtain ⟨X, hX⟩ : ∃ X : TX, X = { B := w.heap.size, A0 := A0, N := N, cap0 := cap0, k := k, K := K, caps := caps, S := S } := ⟨_, rfl⟩
  have HX := Lib.hid hX
  clear hX
  go_enter Try.func74, Try.ntmps74
  go_wp2_with fail
  have hX := HX.out
  subst hX
  obtain ⟨hS, hst, hkeep, hcall⟩ := H.out
  have K5 : ∀ o1 o2 o3 o4 o5, Below w.heap.size w (((((w.alloc o1).alloc o2).alloc o3).alloc o4).alloc o5) := fun o1 o2 o3 o4 o5 =>
    (((((Below.refl _ _).alloc (by go_size) _).alloc (by go_size) _).alloc (by go_size) _).alloc (by go_size) _).alloc (by go_size) _
  have h1 := fun w' => tight1_any { B := w.heap.size, A0 := A0, N := N, cap0 := cap0, k := k, K := K, caps := caps, S := S } Inv Done hS hK hN hk hkeep (cmb N k) (fun t w' A c sets h1 h2 h3 h4 h5 h6 => hcall t w' A c sets h1 h2 h3 h4 h5 h6) k 1 [] 0 w' (by simp) (by omega) (by omega)
  have ha : (#[Value.int .i64 ((1 : Nat) : Int)] ++ TX.gcaps { B := w.heap.size, A0 := A0, N := N, cap0 := cap0, k := k, K := K, caps := caps, S := S }) = #[.int .i64 1, .pointer (some ⟨w.heap.size + 3, 0, none⟩), .pointer (some ⟨w.heap.size + 1, 0, none⟩), .pointer (some ⟨w.heap.size + 2, 0, none⟩), .pointer (some ⟨w.heap.size, 0, none⟩), .pointer (some ⟨w.heap.size + 4, 0, none⟩)] := by simp [TX.gcaps]
  rw [ha] at h1
  simp only [Nat.add_assoc, Nat.reduceAdd]
  refine (h1 _ ?fix ?pre (hkeep 0 _ _ hst (K5 _ _ _ _ _)) (fun j s hj => by rw [Nat.zero_add]; exact hj)).mono ?_
  case fix =>
    exact {
      size := by simp
      bc := ((((Blk.new _ _ _ rfl).alloc _).alloc _).alloc _).alloc _
      bk := (((Blk.new _ _ _ (by simp)).alloc _).alloc _).alloc _
      bm := ((Blk.new _ _ _ (by simp)).alloc _).alloc _
      bg := Blk.new _ _ _ (by simp) }
  case pre => exact ⟨none, 0, (Blk.new _ _ _ (by simp)).alloc _, World.ownsRow_nil _ _ _ _, by simp, by omega⟩
  rintro e w' ⟨hk', hres⟩
  have hkw : Kept w.heap.size S w w' := (Kept.of_below (K5 _ _ _ _ _) _).trans (hk'.mono (by show w.heap.size ≤ w.heap.size + 5; omega) (fun x hx => by
    rcases List.mem_cons.1 hx with e | e
    · exact .inr (by rw [e]; show w.heap.size ≤ w.heap.size + 3; omega)
    · exact .inl e))
  rcases hres with ⟨rfl, hI, _⟩ | ⟨rfl, hD⟩
  · have HF := Lib.hid (And.intro hkw hI)
    clear hkw hI hk' K5 hS hst hkeep hcall
    go_wp2
    go_end0
    exact ⟨rfl, HF.out.1, .inl (by have := HF.out.2; rwa [Nat.zero_add] at this)⟩
  · have HF := Lib.hid (And.intro hkw hD)
    clear hkw hD hk' K5 hS hst hkeep hcall
    go_wp2
    go_end0
    exact ⟨rfl, HF.out.1, .inr HF.out.2⟩

/- Contract: Core of package games. -/

theorem cmbs_mem {N : Nat} : ∀ (m fr : Nat) (pre s : List Nat), s ∈ cmbs N m fr pre → ∃ t, s = pre ++ t ∧ t.length = m ∧ t.Pairwise (· < ·) ∧ ∀ x ∈ t, fr ≤ x ∧ x < N := by
  intro m
  induction m with
  | zero =>
    intro fr pre s h
    simp only [cmbs, List.mem_singleton] at h
    exact ⟨[], by simp [h], rfl, List.Pairwise.nil, fun x hx => by cases hx⟩
  | succ m ih =>
    intro fr pre s h
    simp only [cmbs, List.mem_flatMap] at h
    obtain ⟨a, ha, hs⟩ := h
    obtain ⟨t, rfl, htl, htp, htb⟩ := ih _ _ _ hs
    rw [List.mem_range'_1] at ha
    refine ⟨a :: t, by simp, by simp [htl], List.pairwise_cons.2 ⟨fun x hx => by have := htb x hx; omega, htp⟩, fun x hx => ?_⟩
    rcases List.mem_cons.1 hx with e | e
    · omega
    · have := htb x e; omega
theorem cmb_mem {N k : Nat} {s : List Nat} (h : s ∈ cmb N k) : s.length = k ∧ s.Pairwise (· < ·) ∧ ∀ x ∈ s, 1 ≤ x ∧ x < N := by
  obtain ⟨t, rfl, h1, h2, h3⟩ := cmbs_mem k 1 [] s h
  exact ⟨by simpa using h1, by simpa using h2, by simpa using h3⟩

/-- What Core answers. -/
def coreF (c : List Int) : Option (List Rat) := (cmb c.length (plr c)).findSome? (cand c (plr c))
theorem findSome_at {α β : Type} {f : α → Option β} {L : List α} {t : Nat} {x : α} {y : β} (hx : L[t]? = some x) (hn : ∀ s, s < t → ∀ z, L[s]? = some z → f z = none) (hy : f x = some y) : L.findSome? f = some y := by
  induction L generalizing t with
  | nil => simp at hx
  | cons a L ih =>
    cases t with
    | zero =>
      simp only [List.getElem?_cons_zero, Option.some.injEq] at hx
      subst hx
      simp [hy]
    | succ t =>
      have h0 := hn 0 (by omega) a rfl
      rw [List.findSome?_cons, h0]
      exact ih (by simpa using hx) (fun s hs z hz => hn (s + 1) (by omega) z (by simpa using hz))
theorem findSome_no {α β : Type} {f : α → Option β} {L : List α} (hn : ∀ s, s < L.length → ∀ z, L[s]? = some z → f z = none) : L.findSome? f = none := by
  rw [List.findSome?_eq_none_iff]
  intro x hx
  obtain ⟨s, hs⟩ := List.getElem?_of_mem hx
  exact hn s (List.getElem?_eq_some_iff.1 hs).1 x hs

/-- What Core leaves. -/
def CorePost (c : List Int) (w : World) (e : Ending) (w' : World) : Prop :=
  Below w.heap.size w w' ∧ ((valC c = false ∧ e = .returned (.tuple #[.slice none 0 0, .int .i64 2])) ∨ (valC c = true ∧ coreF c = none ∧ e = .returned (.tuple #[.slice none 0 0, .int .i64 4])) ∨
    (valC c = true ∧ ∃ qs A' c', coreF c = some qs ∧ e = .returned (.tuple #[.slice A' (plr c) c', .int .i64 0]) ∧ qs.length = plr c ∧ Fracs w' A' qs ∧ plr c ≤ c' ∧ c' ≤ 9223372036854775807))

/-- What holds between the calls of the function. -/
structure CoreI (c : List Int) (A0 : Option Addr) (N cap0 n Bc Bk Bf : Nat) (t : Nat) (w : World) : Prop where
  bc : Blk w Bc 22 #[.slice A0 N cap0]
  bk : Blk w Bk 69 #[.slice A0 N cap0]
  bf : Blk w Bf 23 #[.slice none 0 0]
  hc : Ints w A0 c
  lt : ∀ ad, A0 = some ad → ad.block < Bc
  no : ∀ s, s < t → ∀ z, (cmb N n)[s]? = some z → cand c n z = none
def CoreD (c : List Int) (n Bf : Nat) (w : World) : Prop := ∃ qs A' c', coreF c = some qs ∧ Blk w Bf 23 #[.slice A' n c'] ∧ qs.length = n ∧ Fracs w A' qs ∧ n ≤ c' ∧ c' ≤ 9223372036854775807

theorem entF_core1 : EntF 75 := entF_of Try.func75 (by kernel_rfl) (by kernel_rfl)

theorem ints_kept {B : Nat} {S : List Nat} {w w' : World} {A : Option Addr} {xs : List Int} (h : Ints w A xs) (hk : Kept B S w w') (hA : ∀ ad, A = some ad → ad.block < B ∧ ad.block ∉ S) : Ints w' A xs := by
  intro i v hv
  obtain ⟨ad, had, hc⟩ := h i v hv
  have := hA ad had
  exact ⟨ad, had, (hk.cell (by rw [add_block]; exact this.1) (by rw [add_block]; exact this.2)).trans hc⟩

set_option maxRecDepth 100000 in
set_option maxHeartbeats 3200000 in
theorem core_any (A0 : Option Addr) (N cap0 : Nat) (c : List Int) (w : World) (hl : c.length = N) (hN : N ≤ 9223372036854775807) (hc : Ints w A0 c) :
    Calls Try.prog 47 #[.slice A0 N cap0] w (CorePost c w) := by
  have qT : ∀ (w : World) (a : Option Addr) (n c n' c' : Nat), (binOp .eql 23 (.slice a n c) (.slice none n' c')).run Try.prog w = .ok (.bool a.isNone) w := fun w a n c n' c' => Lib.run_eql_slice_nil w _ _ a n c n' c' Try.underlying23
  have hb2 : ∀ o1 o2, Below w.heap.size w ((w.alloc o1).alloc o2) := fun o1 o2 => ((Below.refl _ _).alloc (Nat.le_refl _) _).alloc (by go_size) _
  have hB1 : Blk ((w.alloc (.cells #[.slice A0 N cap0] 22)).alloc (.cells #[.slice A0 N cap0] 69)) w.heap.size 22 #[.slice A0 N cap0] := (Blk.new _ _ _ rfl).alloc _
  have hB2 : Blk ((w.alloc (.cells #[.slice A0 N cap0] 22)).alloc (.cells #[.slice A0 N cap0] 69)) (w.heap.size + 1) 69 #[.slice A0 N cap0] := Blk.new _ _ _ (by simp)
  have had : ∀ ad, A0 = some ad → valC c = true → ad.block < w.heap.size := by
    intro ad had hv
    have h := plr_np hv
    obtain ⟨ad', h1, h2, _⟩ := hc.some_ (by omega)
    rw [had] at h1
    injection h1 with h1
    rw [h1]; exact h2
  have HAD0 := Lib.hid had
  clear had
  have H := Lib.hid (And.intro hl (And.intro hc (And.intro (hb2 (.cells #[.slice A0 N cap0] 22) (.cells #[.slice A0 N cap0] 69)) (And.intro hB1 hB2))))
  clear hl hc hb2 hB1 hB2
  go_enter Try.func47, Try.ntmps47
  go_wp2_with fail
  refine (valid_any A0 N cap0 c _ H.out.1 hN (H.out.2.1.below H.out.2.2.1)).mono ?_
  rintro e w1 ⟨rfl, hb1⟩
  obtain ⟨v, hv⟩ : ∃ v, v = valC c := ⟨_, rfl⟩
  rw [← hv]
  have hbl1 : Below w.heap.size w w1 := H.out.2.2.1.trans (hb1.mono (by simp; omega))
  have hk1 := H.out.2.2.2.1.below hb1 H.out.2.2.2.1.lt
  have hk2 := H.out.2.2.2.2.below hb1 H.out.2.2.2.2.lt
  have H1 := Lib.hid (And.intro hv (And.intro hbl1 (And.intro hk1 hk2)))
  have o1 := hk1.at1.1
  have o2 := hk2.at1.1
  have hz1 := hk2.lt
  clear hv hb1 hbl1 hk1 hk2
  cases v
  · go_wp2_with fail
    go_ret2
    exact ⟨H1.out.2.1, .inl ⟨H1.out.1.symm, rfl⟩⟩
  · have hvc := H1.out.1.symm
    obtain ⟨n, hn⟩ : ∃ n, n = plr c := ⟨_, rfl⟩
    have hnp := plr_np hvc
    rw [H.out.1, ← hn] at hnp
    have hn4 : 1 ≤ n ∧ n ≤ 4 := by omega
    have hN16 : N ≤ 16 := by omega
    have HAD := Lib.hid (fun ad had => HAD0.out ad had hvc)
    have HN := Lib.hid (And.intro hnp (And.intro hn hvc))
    clear hvc hnp hn
    go_wp2_with fail
    obtain ⟨w2, hw2⟩ : ∃ w2, w2 = w1.alloc (.cells #[.slice none 0 0] 23) := ⟨_, rfl⟩
    have hb12 : Below w1.heap.size w1 w2 := by rw [hw2]; exact (Below.refl _ _).alloc (Nat.le_refl _) _
    have hB3 : Blk w2 w1.heap.size 23 #[.slice none 0 0] := by rw [hw2]; exact Blk.new _ _ _ rfl
    have hk1 := H1.out.2.2.1.below hb12 H1.out.2.2.1.lt
    have hk2 := H1.out.2.2.2.below hb12 H1.out.2.2.2.lt
    have hw12 := H1.out.2.1.size
    have hbw2 : Below w.heap.size w w2 := H1.out.2.1.trans (hb12.mono hw12)
    have H2 := Lib.hid (And.intro hk1 (And.intro hk2 (And.intro hB3 hbw2)))
    have q2 := hk2.at1.1
    have hB3lt := hB3.lt
    rw [← hw2]
    clear hw2 hb12 hB3 hk1 hk2 hbw2 o1 o2
    refine wp_region_drew_tail 4 (by kernel_rfl) (by kernel_rfl) ?_
    simp only [List.take_succ_cons, List.take_zero, List.drop_succ_cons, List.drop_zero]
    repeat (go_big_quiet_step ((go_at_call 57; exact players_q _ _ _ _ _ _ HN.out.1)))
    refine wpQuiet_nil ?_
    rintro _ ⟨nq, rfl⟩
    have hst : CoreI c A0 N cap0 n w.heap.size (w.heap.size + 1) w1.heap.size 0 (w2.drewN nq) := ⟨H2.out.1.drewN _, H2.out.2.1.drewN _, H2.out.2.2.1.drewN _, H.out.2.1.below (below_drewN H2.out.2.2.2 _), HAD.out, fun s hs => by omega⟩
    have hwz : (w2.drewN nq).heap.size = w2.heap.size := rfl
    have HT := Lib.hid (tight_any A0 N cap0 n 75 #[.pointer (some ⟨w.heap.size, 0, none⟩), .pointer (some ⟨w.heap.size + 1, 0, none⟩), .pointer (some ⟨w1.heap.size, 0, none⟩)] [w1.heap.size] (w2.drewN nq) (CoreI c A0 N cap0 n w.heap.size (w.heap.size + 1) w1.heap.size) (CoreD c n w1.heap.size)
      (fun x hx => by rw [List.mem_singleton.1 hx]; exact hB3lt) entF_core1 hN16 hn4 hst
      (fun t wa wb h hb => ⟨h.bc.below hb (by rw [hwz]; omega), h.bk.below hb (by rw [hwz]; omega), h.bf.below hb (by rw [hwz]; omega), by
        intro i v hv
        obtain ⟨ad, had, hcell⟩ := h.hc i v hv
        have hlt := h.lt ad had
        exact ⟨ad, had, (hb.cell (by rw [add_block, hwz]; omega)).trans hcell⟩, h.lt, h.no⟩)
      (by
        intro t wa A cs sets hsets hI hA hcs hcs2 hwa
        have hm := cmb_mem (List.mem_of_getElem? hsets)
        refine (core1_any A0 N cap0 n c w.heap.size (w.heap.size + 1) w1.heap.size A cs sets wa hI.hc H.out.1 HN.out.2.2 HN.out.2.1.symm hm.1 (fun s hs => (hm.2.2 s hs).2) hA hI.bc hI.bk hI.bf).mono ?_
        rintro e wb ⟨hk, hres⟩
        refine ⟨hk, ?_⟩
        rcases hres with ⟨hno, he, hbf⟩ | ⟨qs, A', c', hs, he, hbf, h4, h5, h6, h7⟩
        · refine .inl ⟨he, ⟨hI.bc.kept hk hI.bc.lt (by simp; omega), hI.bk.kept hk hI.bk.lt (by simp; omega), hbf, ?_, hI.lt, ?_⟩⟩
          · exact ints_kept hI.hc hk fun ad had => by
              have hlt := hI.lt ad had
              exact ⟨by rw [hwz] at hwa; omega, by simp; omega⟩
          · intro s hs z hz
            rcases Nat.lt_succ_iff_lt_or_eq.1 hs with h | h
            · exact hI.no s h z hz
            · rw [h, hsets] at hz
              injection hz with hz
              rw [← hz]; exact hno
        · refine .inr ⟨he, qs, A', c', ?_, hbf, h4, h5, h6, h7⟩
          unfold coreF
          rw [H.out.1, ← HN.out.2.1]
          exact findSome_at hsets hI.no hs))
    clear hst hwz q2
    go_wp2_with fail
    refine HT.out.mono ?_
    rintro e w3 ⟨rfl, hk3, hres⟩
    have hwz : (w2.drewN nq).heap.size = w2.heap.size := rfl
    have hb3 : Below w.heap.size w w3 := by
      have h1 : Kept w.heap.size [] w (w2.drewN nq) := Kept.of_below (below_drewN H2.out.2.2.2 nq) _
      have h2 : Kept w.heap.size [] (w2.drewN nq) w3 := hk3.mono (by rw [hwz]; omega) (fun x hx => by rw [List.mem_singleton.1 hx]; exact .inr (by omega))
      exact (h1.trans h2).below
    have HB3 := Lib.hid hb3
    rcases hres with hI | ⟨qs, A', c', hs, hbf, h4, h5, h6, h7⟩
    · have HI := Lib.hid hI
      have f1 := hI.bf.at1.1
      have HF : Hid (coreF c = none) := Lib.hid (by
        unfold coreF
        rw [H.out.1, ← HN.out.2.1]
        exact findSome_no hI.no)
      clear hI hk3 hb3 hwz
      go_wp2_with fail
      go_ret2
      exact ⟨HB3.out, .inr (.inl ⟨HN.out.2.2, HF.out, rfl⟩)⟩
    · obtain ⟨aa, rfl⟩ : ∃ aa, A' = some aa := by
        obtain ⟨aa, h, _⟩ := h5.some_ (by omega)
        exact ⟨aa, h⟩
      have f1 := hbf.at1.1
      have HF := Lib.hid (And.intro hs (And.intro h4 (And.intro h5 hbf)))
      clear hs h4 h5 hbf hk3 hb3 hwz
      go_wp2_with fail
      go_ret2
      refine ⟨HB3.out, .inr (.inr ⟨HN.out.2.2, qs, some aa, c', HF.out.1, ?_, ?_, HF.out.2.2.1, ?_, h7⟩)⟩
      · rw [← HN.out.2.1]; rfl
      · rw [← HN.out.2.1]; exact HF.out.2.1
      · rw [← HN.out.2.1]; exact h6

/- If there are payments in the core, Core finds some. Plain Lean. -/

/-- A cost, as a fraction. -/
def cq (c : List Int) (s : Nat) : Rat := ((c.getD s 0 : Int) : Rat)
/-- Payments in the core. -/
def InC (c : List Int) (n : Nat) (x : Nat → Rat) : Prop := dotS n x (2 ^ n - 1) = cq c (2 ^ n - 1) ∧ ∀ s, s < 2 ^ n → dotS n x s ≤ cq c s
/-- The sets that pay what they cost. -/
def tgt (c : List Int) (n : Nat) (x : Nat → Rat) (s : Nat) : Bool := decide (dotS n x s = cq c s)
def tights (c : List Int) (n : Nat) (x : Nat → Rat) : List Nat := (List.range' 1 (2 ^ n - 1)).filter (tgt c n x)
def loose (c : List Int) (n : Nat) (x : Nat → Rat) : List Nat := (List.range' 1 (2 ^ n - 1)).filter fun s => !tgt c n x s

theorem exists_min (f : Nat → Rat) : ∀ L : List Nat, L ≠ [] → ∃ a ∈ L, ∀ b ∈ L, f a ≤ f b := by
  intro L
  induction L with
  | nil => intro h; exact absurd rfl h
  | cons a L ih =>
    intro _
    by_cases e : L = []
    · subst e
      exact ⟨a, List.mem_cons_self .., fun b hb => by rw [List.mem_singleton.1 hb]; exact Rat.le_refl⟩
    · obtain ⟨m, hm, hmin⟩ := ih e
      by_cases h : f a ≤ f m
      · refine ⟨a, List.mem_cons_self .., fun b hb => ?_⟩
        rcases List.mem_cons.1 hb with rfl | hb
        · exact Rat.le_refl
        · exact Rat.le_trans h (hmin b hb)
      · refine ⟨m, List.mem_cons_of_mem _ hm, fun b hb => ?_⟩
        rcases List.mem_cons.1 hb with rfl | hb
        · grind
        · exact hmin b hb
theorem filter_le_of {p q : Nat → Bool} {L : List Nat} (h : ∀ s ∈ L, q s = true → p s = true) : (L.filter q).length ≤ (L.filter p).length := by
  induction L with
  | nil => exact Nat.le_refl _
  | cons a L ih =>
    have h1 := ih fun s hs => h s (List.mem_cons_of_mem _ hs)
    have h2 := h a (List.mem_cons_self ..)
    rw [List.filter_cons, List.filter_cons]
    cases hq : q a
    · rw [if_neg (by decide)]
      split
      · rw [List.length_cons]; omega
      · exact h1
    · rw [if_pos rfl, h2 hq, if_pos rfl, List.length_cons, List.length_cons]; omega
theorem filter_lt_of {p q : Nat → Bool} {L : List Nat} (h : ∀ s ∈ L, q s = true → p s = true) {a : Nat} (ha : a ∈ L) (hp : p a = true) (hq : q a = false) : (L.filter q).length < (L.filter p).length := by
  induction L with
  | nil => cases ha
  | cons b L ih =>
    have h0 := filter_le_of (fun s hs => h s (List.mem_cons_of_mem b hs))
    have h2 := h b (List.mem_cons_self ..)
    rw [List.filter_cons, List.filter_cons]
    rcases List.mem_cons.1 ha with rfl | ha
    · rw [if_neg (by rw [hq]; decide), if_pos hp, List.length_cons]; omega
    · have h1 := ih (fun s hs => h s (List.mem_cons_of_mem _ hs)) ha
      cases hq : q b
      · rw [if_neg (by decide)]
        split
        · rw [List.length_cons]; omega
        · exact h1
      · rw [if_pos rfl, h2 hq, if_pos rfl, List.length_cons, List.length_cons]; omega
theorem bq_cases (s i : Nat) : bq s i = 0 ∨ bq s i = 1 := by
  unfold bq
  rcases bitI_cases s i with h | h <;> rw [h]
  · exact .inl (by simp)
  · exact .inr (by simp)
theorem bq_one {i j : Nat} : bq (2 ^ i) j = if i = j then 1 else 0 := by
  unfold bq bitI
  rw [Nat.testBit_two_pow]
  by_cases e : i = j
  · simp [e]
  · simp [e]
theorem bq_all {n i : Nat} (h : i < n) : bq (2 ^ n - 1) i = 1 := by
  unfold bq bitI
  rw [Nat.testBit_two_pow_sub_one, decide_eq_true h, if_pos rfl]
  simp
theorem dot_one {n i : Nat} (h : i < n) (d : Nat → Rat) : dotS n d (2 ^ i) = d i := by
  unfold dotS
  rw [sumQ_one h (fun j hj hne => by rw [bq_one, if_neg (fun e => hne e.symm)]; grind), bq_one, if_pos rfl]
  grind
theorem dot_all (n : Nat) (d : Nat → Rat) : dotS n d (2 ^ n - 1) = sumQ d n := by
  unfold dotS
  exact sumQ_congr fun i hi => by rw [bq_all hi]; grind
theorem dot_empty (n : Nat) (d : Nat → Rat) : dotS n d 0 = 0 := by
  unfold dotS
  exact sumQ_zero fun i _ => by simp [bq, bitI]
theorem mem_sets {n s : Nat} : s ∈ List.range' 1 (2 ^ n - 1) ↔ 1 ≤ s ∧ s < 2 ^ n := by
  rw [List.mem_range'_1]
  have := Nat.two_pow_pos n
  omega

/-- One step towards a corner. -/
theorem move {c : List Int} {n : Nat} {x : Nat → Rat} (hn : 1 ≤ n) (hx : InC c n x) (hs : ¬ Spn n (tights c n x)) : ∃ x', InC c n x' ∧ (loose c n x').length < (loose c n x).length := by
  obtain ⟨d, hd, i, hi, hdi⟩ : ∃ d : Nat → Rat, (∀ s ∈ tights c n x, dotS n d s = 0) ∧ ∃ i, i < n ∧ 0 < d i := by
    apply Classical.byContradiction
    intro hno
    apply hs
    intro d hd i hi
    apply Classical.byContradiction
    intro hne
    by_cases h0 : 0 < d i
    · exact hno ⟨d, hd, i, hi, h0⟩
    · refine hno ⟨fun j => 0 + (-1) * d j, fun s hs => ?_, i, hi, by dsimp only; grind⟩
      rw [dot_add n (fun _ => 0) d, hd s hs]
      have : dotS n (fun _ => (0 : Rat)) s = 0 := sumQ_zero fun i _ => by grind
      rw [this]; grind
  have hp : 2 ^ i ∈ (List.range' 1 (2 ^ n - 1)).filter fun s => decide (0 < dotS n d s) := by
    rw [List.mem_filter, mem_sets]
    refine ⟨⟨Nat.two_pow_pos i, Nat.pow_lt_pow_right (by decide) hi⟩, ?_⟩
    rw [dot_one hi]
    exact decide_eq_true hdi
  obtain ⟨m, hm, hmin⟩ := exists_min (fun s => (cq c s - dotS n x s) * (dotS n d s)⁻¹) _ (List.ne_nil_of_mem hp)
  rw [List.mem_filter, decide_eq_true_eq, mem_sets] at hm
  have htight : ∀ s, 1 ≤ s → s < 2 ^ n → dotS n x s = cq c s → dotS n d s = 0 := fun s h1 h2 h3 => hd s (List.mem_filter.2 ⟨mem_sets.2 ⟨h1, h2⟩, decide_eq_true h3⟩)
  obtain ⟨t, ht⟩ : ∃ t, t = (cq c m - dotS n x m) * (dotS n d m)⁻¹ := ⟨_, rfl⟩
  have hinv : ∀ s, 0 < dotS n d s → 0 ≤ (dotS n d s)⁻¹ ∧ dotS n d s * (dotS n d s)⁻¹ = 1 := fun s hs => ⟨Rat.le_of_lt (Rat.inv_pos.2 hs), Rat.mul_inv_cancel _ (fun e => by rw [e] at hs; exact absurd hs (by decide))⟩
  have hxm := hx.2 m hm.1.2
  have ht0 : 0 ≤ t := by
    rw [ht]
    exact Rat.mul_nonneg (by grind) (hinv m hm.2).1
  have hle : ∀ s, 1 ≤ s → s < 2 ^ n → dotS n x s + t * dotS n d s ≤ cq c s := by
    intro s h1 h2
    have hxs := hx.2 s h2
    by_cases h0 : 0 < dotS n d s
    · have h3 := hmin s (List.mem_filter.2 ⟨mem_sets.2 ⟨h1, h2⟩, decide_eq_true h0⟩)
      have h4 := Rat.mul_le_mul_of_nonneg_right h3 (Rat.le_of_lt h0)
      rw [← ht, Rat.mul_assoc, Rat.mul_comm (dotS n d s)⁻¹, (hinv s h0).2] at h4
      grind
    · have : t * dotS n d s ≤ 0 := by
        have h5 : 0 ≤ - dotS n d s := by grind
        have := Rat.mul_nonneg ht0 h5
        grind
      grind
  refine ⟨fun j => x j + t * d j, ⟨?_, fun s hs => ?_⟩, ?_⟩
  · rw [dot_add, htight _ (by have := Nat.pow_le_pow_right (show 0 < 2 by decide) hn; omega) (by have := Nat.two_pow_pos n; omega) hx.1, hx.1]
    grind
  · rw [dot_add]
    by_cases h1 : 1 ≤ s
    · exact hle s h1 hs
    · obtain rfl : s = 0 := by omega
      have := hx.2 0 hs
      rw [dot_empty] at this ⊢
      rw [dot_empty]
      grind
  · unfold loose
    refine filter_lt_of (a := m) (fun s hs h => ?_) (mem_sets.2 hm.1) ?_ ?_
    · rw [Bool.not_eq_true'] at h ⊢
      unfold tgt at h ⊢
      rw [decide_eq_false_iff_not] at h ⊢
      intro e
      apply h
      have := mem_sets.1 hs
      rw [dot_add, htight s this.1 this.2 e, e]
      grind
    · unfold tgt
      rw [Bool.not_eq_true', decide_eq_false_iff_not]
      intro e
      have := htight m hm.1.1 hm.1.2 e
      rw [this] at hm
      exact absurd hm.2 (by decide)
    · unfold tgt
      rw [Bool.not_eq_false', decide_eq_true_eq, dot_add, ht, Rat.mul_assoc, Rat.mul_comm (dotS n d m)⁻¹, (hinv m hm.2).2]
      grind
theorem corner {c : List Int} {n : Nat} (hn : 1 ≤ n) : ∀ (k : Nat) (x : Nat → Rat), (loose c n x).length ≤ k → InC c n x → ∃ x', InC c n x' ∧ Spn n (tights c n x') := by
  intro k
  induction k with
  | zero =>
    intro x hk hx
    refine ⟨x, hx, Classical.byContradiction fun h => ?_⟩
    obtain ⟨x', _, h2⟩ := move hn hx h
    omega
  | succ k ih =>
    intro x hk hx
    by_cases h : Spn n (tights c n x)
    · exact ⟨x, hx, h⟩
    · obtain ⟨x', h1, h2⟩ := move hn hx h
      exact ih x' (by omega) h1

/- Core finds payments exactly if there are some. Plain Lean. -/

theorem cmbs_of {N : Nat} : ∀ (m fr : Nat) (pre t : List Nat), t.length = m → t.Pairwise (· < ·) → (∀ x ∈ t, fr ≤ x ∧ x < N) → pre ++ t ∈ cmbs N m fr pre := by
  intro m
  induction m with
  | zero =>
    intro fr pre t hl _ _
    obtain rfl := List.length_eq_zero_iff.1 hl
    simp [cmbs]
  | succ m ih =>
    intro fr pre t hl hp hb
    cases t with
    | nil => cases hl
    | cons a t =>
      have ha := hb a (List.mem_cons_self ..)
      simp only [cmbs, List.mem_flatMap]
      refine ⟨a, by rw [List.mem_range'_1]; omega, ?_⟩
      have := ih (a + 1) (pre ++ [a]) t (by simpa using hl) (List.pairwise_cons.1 hp).2 fun x hx => ⟨(List.pairwise_cons.1 hp).1 x hx, (hb x (List.mem_cons_of_mem _ hx)).2⟩
      simpa using this
theorem cmb_of {N k : Nat} {s : List Nat} (hl : s.length = k) (hp : s.Pairwise (· < ·)) (hb : ∀ x ∈ s, 1 ≤ x ∧ x < N) : s ∈ cmb N k := cmbs_of k 1 [] s hl hp hb
theorem findSome_some {α β : Type} {f : α → Option β} {L : List α} {x : α} {y : β} (hx : x ∈ L) (hy : f x = some y) : ∃ z, L.findSome? f = some z := by
  cases h : L.findSome? f with
  | some z => exact ⟨z, rfl⟩
  | none =>
    have := List.findSome?_eq_none_iff.1 h x hx
    rw [this] at hy
    cases hy
theorem paysL_dot {qs : List Rat} {n : Nat} (hl : qs.length = n) (s : Nat) : paysL qs s = dotS n (fun i => qs.getD i 0) s := by
  have key : ∀ k, paysTo qs s k = sumQ (fun i => bq s i * qs.getD i 0) k := by
    intro k
    induction k with
    | zero => rfl
    | succ k ih =>
      rw [paysTo_succ, sumQ, ih]
      unfold bq bitI
      cases s.testBit k
      · simp only [Bool.false_eq_true, if_false]; simp; exact (Rat.add_zero _).symm
      · simp
  rw [show paysL qs s = paysTo qs s n from by rw [paysL, hl]; rfl]
  exact key n
theorem solQ_eq {x l : Int} (hl : l ≠ 0) : (l : Rat) * solQ x l = (x : Rat) := by
  have hq : (l : Rat) ≠ 0 := by simpa using hl
  unfold solQ
  rw [Rat.divInt_eq_div]
  by_cases h : l < 0
  · rw [if_pos h, show max l (-l) = -l from by omega, Rat.intCast_neg, Rat.intCast_neg]
    grind
  · rw [if_neg h, show max l (-l) = l from by omega]
    grind
theorem solQ_of {x l : Int} {y : Rat} (hl : l ≠ 0) (h : (l : Rat) * y + (x : Rat) * -1 = 0) : solQ x l = y := by
  have hq : (l : Rat) ≠ 0 := by simpa using hl
  have h1 := solQ_eq (x := x) hl
  have h2 : (l : Rat) * (solQ x l - y) = 0 := by grind
  rcases Rat.mul_eq_zero.1 h2 with h3 | h3
  · exact absurd h3 hq
  · grind
theorem solQ_den {x l : Int} (hl : l ≠ 0) (hb : l.natAbs ≤ 8) : ((solQ x l).den : Int) ≤ 8 := by
  unfold solQ
  have := divInt_den_le (a := if l < 0 then -x else x) (b := max l (-l)) (by omega)
  omega
theorem num_bd {q : Rat} {d m : Int} (hd : (q.den : Int) ≤ d) (hm : 0 ≤ m) (h1 : -(m : Rat) ≤ q) (h2 : q ≤ (m : Rat)) : -(m * d) ≤ q.num ∧ q.num ≤ m * d := by
  have hp := den_pos q
  have hdq : (0 : Rat) < ((q.den : Int) : Rat) := (Rat.intCast_lt_intCast (a := 0) (b := (q.den : Int))).2 hp
  have hd0 : ((q.den : Int) : Rat) ≠ 0 := fun e => by rw [e] at hdq; exact absurd hdq (by decide)
  have e2 : q * ((q.den : Int) : Rat) = (q.num : Rat) := by
    have e := Rat.num_divInt_den q
    rw [Rat.divInt_eq_div] at e
    have e3 : (q.num : Rat) / ((q.den : Int) : Rat) * ((q.den : Int) : Rat) = (q.num : Rat) := Rat.div_mul_cancel hd0
    rw [e] at e3
    exact e3
  have a1 := Rat.mul_le_mul_of_nonneg_right h1 (Rat.le_of_lt hdq)
  have a2 := Rat.mul_le_mul_of_nonneg_right h2 (Rat.le_of_lt hdq)
  rw [e2] at a1 a2
  have b1 : -(m * (q.den : Int)) ≤ q.num := by
    rw [← Rat.intCast_le_intCast, Rat.intCast_neg, Rat.intCast_mul]
    grind
  have b2 : q.num ≤ m * (q.den : Int) := by
    rw [← Rat.intCast_le_intCast, Rat.intCast_mul]
    exact a2
  have b3 : m * (q.den : Int) ≤ m * d := Int.mul_le_mul_of_nonneg_left hd hm
  omega
theorem sumQ_le {f : Nat → Rat} {a : Rat} : ∀ n : Nat, (∀ i, i < n → f i ≤ a) → sumQ f n ≤ (n : Rat) * a := by
  intro n
  induction n with
  | zero => intro _; simp [sumQ]
  | succ n ih =>
    intro h
    have h1 := ih fun i hi => h i (by omega)
    have h2 := h n (by omega)
    rw [sumQ, Rat.natCast_add]
    grind
/-- Payments in the core are small. -/
theorem inC_bd {c : List Int} {n : Nat} {x : Nat → Rat} (hcb : ∀ v ∈ c, 0 ≤ v ∧ v ≤ 1000) (hn4 : n ≤ 4) (h : InC c n x) {i : Nat} (hi : i < n) : -((4000 : Int) : Rat) ≤ x i ∧ x i ≤ ((4000 : Int) : Rat) := by
  have hc : ∀ s, (0 : Rat) ≤ cq c s ∧ cq c s ≤ 1000 := by
    intro s
    have := costs_get hcb s
    unfold cq
    have a := (Rat.intCast_le_intCast (a := 0) (b := c.getD s 0)).2 this.1
    have b := (Rat.intCast_le_intCast (a := c.getD s 0) (b := 1000)).2 this.2
    exact ⟨by simpa using a, by simpa using b⟩
  have hx : ∀ j, j < n → x j ≤ 1000 := by
    intro j hj
    have h1 := h.2 (2 ^ j) (Nat.pow_lt_pow_right (by decide) hj)
    rw [dot_one hj] at h1
    exact Rat.le_trans h1 (hc _).2
  have h1 := h.1
  rw [dot_all] at h1
  have e : sumQ x n = sumQ (fun j => (if j = i then x i else 0) + (if j = i then 0 else x j)) n := sumQ_congr fun j hj => by
    by_cases e : j = i
    · rw [if_pos e, if_pos e, e]; grind
    · rw [if_neg e, if_neg e]; grind
  rw [e, sumQ_add, sumQ_one hi (fun j hj hne => by rw [if_neg hne]), if_pos rfl] at h1
  have h2 := sumQ_le (f := fun j => if j = i then 0 else x j) (a := 1000) n fun j hj => by
    split
    · decide
    · exact hx j hj
  have h3 : (n : Rat) ≤ 4 := by
    have := (Rat.intCast_le_intCast (a := (n : Int)) (b := 4)).2 (by omega)
    rw [Rat.intCast_natCast] at this
    exact this
  have h4 := hx i hi
  have h5 := (hc (2 ^ n - 1)).1
  refine ⟨?_, ?_⟩
  · simp only [Rat.intCast_ofNat]
    grind
  · simp only [Rat.intCast_ofNat]
    grind
/-- The checks by whole numbers say that payments are in the core. -/
theorem ccB_in {c : List Int} {qs : List Rat} {n : Nat} (hv : valC c = true) (hn : plr c = n) (hl : qs.length = n) (hq : ∀ q ∈ qs, smallQ q) : ccB c (qs.map pr) = true ↔ InC c n (fun i => qs.getD i 0) := by
  unfold ccB coreI
  rw [hv, if_pos rfl, hn, Bool.and_eq_true, sumB_R hl hq, coreTo_R hl hq, decide_eq_true_eq, paysL_dot hl]
  refine and_congr Iff.rfl ?_
  unfold coreRTo
  rw [List.all_eq_true]
  constructor
  · intro h s hs
    have := h s (List.mem_range.2 hs)
    rw [Bool.not_eq_true', decide_eq_false_iff_not, paysL_dot hl, Rat.not_lt] at this
    exact this
  · intro h s hs
    rw [Bool.not_eq_true', decide_eq_false_iff_not, paysL_dot hl, Rat.not_lt]
    exact h s (List.mem_range.1 hs)
theorem entry_row {c : List Int} {n : Nat} {sets : List Nat} (hl : sets.length = n) {i : Nat} (hi : i < n) : (∀ j, j < n → entry (sysC c n sets) i j = bitI (sets.getD i 0) j) ∧ entry (sysC c n sets) i n = c.getD (sets.getD i 0) 0 := by
  obtain ⟨s, hs⟩ : ∃ s, sets[i]? = some s := ⟨_, List.getElem?_eq_getElem (by omega)⟩
  have e1 : sets.getD i 0 = s := by rw [List.getD_eq_getElem?_getD, hs]; rfl
  have e2 : (sysC c n sets).getD i [] = rowL n s (c.getD s 0) := by unfold sysC; rw [List.getD_eq_getElem?_getD, List.getElem?_map, hs]; rfl
  unfold entry
  rw [e2, e1]
  exact ⟨fun j hj => rowL_get n s _ j hj, rowL_last n s _⟩
/-- The last of rising sets is the set of all. -/
theorem last_all {n : Nat} {sets : List Nat} (hn : 1 ≤ n) (hl : sets.length = n) (hp : sets.Pairwise (· < ·)) (hm : 2 ^ n - 1 ∈ sets) (hb : ∀ x ∈ sets, x < 2 ^ n) : sets.getD (n - 1) 0 = 2 ^ n - 1 := by
  obtain ⟨j, hj, e⟩ := List.getElem_of_mem hm
  rw [List.getD_eq_getElem?_getD, List.getElem?_eq_getElem (by omega), Option.getD_some]
  by_cases h : j = n - 1
  · subst h; exact e
  · have h1 := List.pairwise_iff_getElem.1 hp j (n - 1) hj (by omega) (by omega)
    have h2 := hb _ (List.getElem_mem (show n - 1 < sets.length by omega))
    omega
theorem cand_some {c : List Int} {n : Nat} {x : Nat → Rat} {sets : List Nat} (hv : valC c = true) (hn : plr c = n) (hx : InC c n x) (hl : sets.length = n) (hp : sets.Pairwise (· < ·)) (hm : 2 ^ n - 1 ∈ sets) (hb : ∀ s ∈ sets, s < 2 ^ n) (ht : ∀ s ∈ sets, dotS n x s = cq c s) (hs : Spn n sets) : ∃ qs, cand c n sets = some qs := by
  have hpw := valC_pow hv
  rw [hn] at hpw
  have hcb := (valC_iff.1 hv).2.2
  have hf : Bits (entry (sysC c n sets)) n := fun i j hi hj => by
    rw [(entry_row hl hi).1 j hj]; exact bitI_cases _ _
  have hrow : ∀ (y : Nat → Rat) i, i < n → sumQ (fun j => (entry (sysC c n sets) i j : Rat) * y j) (n + 1) = dotS n y (sets.getD i 0) + cq c (sets.getD i 0) * y n := by
    intro y i hi
    rw [sumQ, (entry_row hl hi).2]
    congr 1
    exact sumQ_congr fun j hj => by rw [(entry_row hl hi).1 j hj]; rfl
  have hget : ∀ s ∈ sets, ∃ i, i < n ∧ sets.getD i 0 = s := by
    intro s hs
    obtain ⟨i, hi, e⟩ := List.getElem_of_mem hs
    exact ⟨i, by omega, by rw [List.getD_eq_getElem?_getD, List.getElem?_eq_getElem hi]; exact e⟩
  unfold cand
  rw [if_pos (last_all hpw.2.1 hl hp hm hb)]
  cases e : slvTo (entry (sysC c n sets)) n n with
  | none =>
    obtain ⟨y, h1, h2, j, hj, h3⟩ := slv_none hf hpw.2.2 e
    refine absurd (hs y (fun s hs => ?_) j hj) h3
    obtain ⟨i, hi, rfl⟩ := hget s hs
    have := h1 i hi
    rw [hrow y i hi, h2] at this
    grind
  | some r =>
    obtain ⟨h, l⟩ := r
    obtain ⟨h1, h2, h3⟩ := slv_some hf hpw.2.2 e
    have hy := (h3 (fun j => if j < n then x j else -1)).1 (fun i hi => by
      rw [hrow _ i hi]
      have e1 : dotS n (fun j => if j < n then x j else -1) (sets.getD i 0) = dotS n x (sets.getD i 0) := sumQ_congr fun j hj => by dsimp only; rw [if_pos hj]
      have hmem : sets.getD i 0 ∈ sets := by rw [List.getD_eq_getElem?_getD, List.getElem?_eq_getElem (by omega)]; exact List.getElem_mem _
      rw [e1, ht _ hmem]
      rw [if_neg (by omega)]
      grind)
    have hxi : ∀ i, i < n → solQ (h i n) l = x i := fun i hi => by
      have := hy i hi
      rw [if_pos hi, if_neg (by omega)] at this
      exact solQ_of h1 this
    have hsl : (solL h l n).length = n := by simp [solL]
    have hsm : ∀ q ∈ solL h l n, smallQ q := by
      intro q hq
      simp only [solL, List.mem_map, List.mem_range] at hq
      obtain ⟨i, hi, rfl⟩ := hq
      have hd := solQ_den (x := h i n) h1 h2
      have hb := inC_bd hcb hpw.2.2 hx hi
      rw [← hxi i hi] at hb
      have := num_bd hd (by decide) hb.1 hb.2
      unfold smallQ
      omega
    have hin : ccB c ((solL h l n).map pr) = true := by
      rw [ccB_in hv hn hsl hsm]
      have e1 : ∀ s, dotS n (fun i => (solL h l n).getD i 0) s = dotS n x s := fun s => sumQ_congr fun i hi => by
        dsimp only
        rw [← hxi i hi, List.getD_eq_getElem?_getD]
        simp [solL, hi]
      unfold InC
      simp only [e1]
      exact hx
    simp only [hin, if_true]
    exact ⟨_, rfl⟩
theorem core_some {c : List Int} {x : Nat → Rat} (hv : valC c = true) (hx : InC c (plr c) x) : ∃ qs, coreF c = some qs := by
  obtain ⟨n, hn⟩ : ∃ n, plr c = n := ⟨_, rfl⟩
  rw [hn] at hx
  have hpw := valC_pow hv
  rw [hn] at hpw
  obtain ⟨x', hx', hs⟩ := corner hpw.2.1 _ x (Nat.le_refl _) hx
  have hN : 2 ≤ 2 ^ n := Nat.pow_le_pow_right (show 0 < 2 by decide) hpw.2.1
  have hm : 2 ^ n - 1 ∈ tights c n x' := List.mem_filter.2 ⟨mem_sets.2 (by omega), decide_eq_true hx'.1⟩
  have hp : (tights c n x').Pairwise (· < ·) := (List.pairwise_lt_range').sublist List.filter_sublist
  have hle := spn_length hs
  obtain ⟨Q, h1, h2, h3, h4, h5⟩ := spn_shrink hpw.2.1 (fun i hi => bq_all hi) ((tights c n x').length - n) (tights c n x') (by omega) hp hm hs
  have hQ : ∀ s ∈ Q, (1 ≤ s ∧ s < 2 ^ n) ∧ dotS n x' s = cq c s := fun s hs => by
    have := List.mem_filter.1 (h5 s hs)
    exact ⟨mem_sets.1 this.1, of_decide_eq_true this.2⟩
  obtain ⟨qs, hqs⟩ := cand_some hv hn hx' h1 h2 h3 (fun s hs => (hQ s hs).1.2) (fun s hs => (hQ s hs).2) h4
  unfold coreF
  rw [hn, hpw.1]
  exact findSome_some (cmb_of h1 h2 fun s hs => (hQ s hs).1) hqs
theorem core_cc {c : List Int} {qs : List Rat} (h : coreF c = some qs) : ccB c (qs.map pr) = true ∧ qs.length = plr c := by
  unfold coreF at h
  obtain ⟨s, _, hs⟩ := List.exists_of_findSome?_eq_some h
  unfold cand at hs
  split at hs
  · split at hs
    · cases hs
    · split at hs
      · rename_i hcc
        injection hs with hs
        rw [← hs]
        exact ⟨hcc, by simp [solL]⟩
      · cases hs
  · cases hs

/- The first two sets that show that costs are not concave: plain Lean. -/

def badB (c : List Int) (a b : Nat) : Bool := decide (c.getD a 0 + c.getD b 0 < c.getD (a ||| b) 0 + c.getD (a &&& b) 0)
def concL (c : List Int) : Nat × Nat × Nat :=
  match (List.range (c.length * c.length)).find? (fun t => badB c (t / c.length) (t % c.length)) with
  | some t => (t / c.length, t % c.length, 0)
  | none => (0, 0, 4)
/-- No two sets before these show it. -/
def noneTo (c : List Int) (t : Nat) : Prop := ∀ s, s < t → badB c (s / c.length) (s % c.length) = false
theorem noneTo_zero (c : List Int) : noneTo c 0 := fun s h => by omega
theorem div_pos_eq {N a b : Nat} (hb : b < N) : (a * N + b) / N = a ∧ (a * N + b) % N = b := by
  constructor
  · rw [Nat.mul_comm, Nat.mul_add_div (by omega), Nat.div_eq_of_lt hb, Nat.add_zero]
  · rw [Nat.mul_comm, Nat.mul_add_mod, Nat.mod_eq_of_lt hb]
theorem noneTo_succ {c : List Int} {a b : Nat} (h : noneTo c (a * c.length + b)) (hb : b < c.length) (hn : badB c a b = false) : noneTo c (a * c.length + (b + 1)) := by
  intro s hs
  rcases Nat.lt_or_ge s (a * c.length + b) with h1 | h1
  · exact h s h1
  · obtain rfl : s = a * c.length + b := by omega
    obtain ⟨e1, e2⟩ := div_pos_eq (a := a) hb
    rw [e1, e2]; exact hn
theorem noneTo_row {c : List Int} {a : Nat} (h : noneTo c (a * c.length + c.length)) : noneTo c ((a + 1) * c.length) := by rwa [Nat.succ_mul]
theorem concL_hit {c : List Int} {a b : Nat} (h : noneTo c (a * c.length + b)) (ha : a < c.length) (hb : b < c.length) (hx : badB c a b = true) : concL c = (a, b, 0) := by
  obtain ⟨e1, e2⟩ := div_pos_eq (a := a) hb
  have hlt : a * c.length + b < c.length * c.length := by
    have : (a + 1) * c.length ≤ c.length * c.length := Nat.mul_le_mul_right _ ha
    rw [Nat.succ_mul] at this; omega
  have : (List.range (c.length * c.length)).find? (fun t => badB c (t / c.length) (t % c.length)) = some (a * c.length + b) := by
    rw [List.find?_range_eq_some]
    refine ⟨by rw [e1, e2]; exact hx, List.mem_range.2 hlt, fun j hj => by simp [h j hj]⟩
  unfold concL
  rw [this]
  simp only [e1, e2]
theorem concL_miss {c : List Int} (h : noneTo c (c.length * c.length)) : concL c = (0, 0, 4) := by
  have : (List.range (c.length * c.length)).find? (fun t => badB c (t / c.length) (t % c.length)) = none := by
    rw [List.find?_eq_none]
    intro t ht
    simp [h t (List.mem_range.1 ht)]
  unfold concL
  rw [this]
theorem and_lt {a b N : Nat} (h : a < N) : a &&& b < N := Nat.lt_of_le_of_lt Nat.and_le_left h

/- How many orders there are: plain Lean. -/
theorem flatMap_len {α β : Type} (f : α → List β) (b : Nat) (l : List α) (h : ∀ x ∈ l, (f x).length ≤ b) : (l.flatMap f).length ≤ l.length * b := by
  induction l with
  | nil => simp
  | cons x l ih =>
    have h1 := h x (by simp)
    have h2 := ih fun y hy => h y (by simp [hy])
    simp only [List.flatMap_cons, List.length_append, List.length_cons, Nat.add_mul, Nat.one_mul]
    omega
theorem ext_lenP (n m : Nat) : ∀ pre, (ext n m pre).length ≤ n ^ m := by
  induction m with
  | zero => intro pre; simp [ext]
  | succ m ih =>
    intro pre
    have := flatMap_len (fun i => if i ∈ pre then [] else ext n m (pre ++ [i])) (n ^ m) (List.range n) (fun i _ => by
      split
      · simp
      · exact ih _)
    rw [List.length_range] at this
    rw [Nat.pow_succ, Nat.mul_comm]
    exact this
theorem extTo_lenP (n m : Nat) (pre : List Nat) (i : Nat) : (extTo n m pre i).length ≤ i * n ^ m := by
  have := flatMap_len (fun i => if i ∈ pre then [] else ext n m (pre ++ [i])) (n ^ m) (List.range i) (fun i _ => by
    split
    · simp
    · exact ext_lenP n m _)
  rwa [List.length_range] at this
theorem pow_small {n m : Nat} (hn : n ≤ 4) (hm : m ≤ 4) : n ^ m ≤ 256 := by
  calc n ^ m ≤ 4 ^ m := Nat.pow_le_pow_left hn m
    _ ≤ 4 ^ 4 := Nat.pow_le_pow_right (by omega) hm
    _ = 256 := rfl
theorem ext_mem {n m : Nat} : ∀ {pre}, (∀ x ∈ pre, x < n) → ∀ os ∈ ext n m pre, os.length = pre.length + m ∧ ∀ x ∈ os, x < n := by
  induction m with
  | zero => intro pre hp os ho; simp [ext] at ho; subst ho; exact ⟨rfl, hp⟩
  | succ m ih =>
    intro pre hp os ho
    simp only [ext, List.mem_flatMap, List.mem_range] at ho
    obtain ⟨i, hi, ho⟩ := ho
    split at ho
    · cases ho
    · have := ih (pre := pre ++ [i]) (by intro x hx; simp at hx; rcases hx with hx | rfl; exact hp x hx; exact hi) os ho
      simp at this
      exact ⟨by omega, this.2⟩

/- When a list is an order of the players, by two ways: plain Lean. -/

/-- The reference's way: nobody twice. -/
def ordRgo (n : Nat) : Nat → List Int → Bool
  | _, [] => true
  | met, x :: l => if x < 0 ∨ (n : Int) ≤ x ∨ met / 2 ^ x.toNat % 2 = 1 then false else ordRgo n (met ||| 2 ^ x.toNat) l
def ordR (n : Nat) (l : List Int) : Bool := ordRgo n 0 l && decide (l.length = n)
/-- The program's way: all are met. -/
def ordGgo (n : Nat) : Nat → List Int → Bool
  | set, [] => decide (set = 2 ^ n - 1)
  | set, x :: l => if x < 0 ∨ (n : Int) ≤ x then false else ordGgo n (set ||| 2 ^ x.toNat) l
def ordG (n : Nat) (l : List Int) : Bool := ordGgo n 0 l && decide (l.length = n)

theorem ordRgo_mem {n : Nat} {l : List Int} : ∀ {met}, ordRgo n met l = true → ∀ x ∈ l, 0 ≤ x ∧ x < n := by
  induction l with
  | nil => intro _ _ x hx; cases hx
  | cons y l ih =>
    intro met h x hx
    rw [ordRgo] at h
    split at h
    · cases h
    · rcases List.mem_cons.1 hx with rfl | hx
      · omega
      · exact ih h x hx
theorem ordGgo_mem {n : Nat} {l : List Int} : ∀ {met}, ordGgo n met l = true → ∀ x ∈ l, 0 ≤ x ∧ x < n := by
  induction l with
  | nil => intro _ _ x hx; cases hx
  | cons y l ih =>
    intro met h x hx
    rw [ordGgo] at h
    split at h
    · cases h
    · rcases List.mem_cons.1 hx with rfl | hx
      · omega
      · exact ih h x hx

theorem nats_of {n : Nat} {l : List Int} (h : ∀ x ∈ l, 0 ≤ x ∧ x < n) : ∃ os : List Nat, l = os.map Int.ofNat ∧ ∀ x ∈ os, x < n := by
  refine ⟨l.map Int.toNat, ?_, ?_⟩
  · rw [List.map_map]
    conv => lhs; rw [← List.map_id l]
    apply List.map_congr_left
    intro x hx
    have := (h x hx).1
    show x = ((x.toNat : Nat) : Int)
    omega
  · intro x hx
    obtain ⟨y, hy, rfl⟩ := List.mem_map.1 hx
    have := h y hy
    omega

set_option maxRecDepth 100000 in
theorem ord1 : ∀ a, a < 1 → ordG 1 [(a : Nat)] = ordR 1 [(a : Nat)] := by decide
set_option maxRecDepth 100000 in
theorem ord2 : ∀ a, a < 2 → ∀ b, b < 2 → ordG 2 [((a : Nat) : Int), ((b : Nat) : Int)] = ordR 2 [((a : Nat) : Int), ((b : Nat) : Int)] := by decide
set_option maxRecDepth 100000 in
theorem ord3 : ∀ a, a < 3 → ∀ b, b < 3 → ∀ c, c < 3 → ordG 3 [((a : Nat) : Int), ((b : Nat) : Int), ((c : Nat) : Int)] = ordR 3 [((a : Nat) : Int), ((b : Nat) : Int), ((c : Nat) : Int)] := by decide
set_option maxRecDepth 100000 in
theorem ord4 : ∀ a, a < 4 → ∀ b, b < 4 → ∀ c, c < 4 → ∀ d, d < 4 → ordG 4 [((a : Nat) : Int), ((b : Nat) : Int), ((c : Nat) : Int), ((d : Nat) : Int)] = ordR 4 [((a : Nat) : Int), ((b : Nat) : Int), ((c : Nat) : Int), ((d : Nat) : Int)] := by decide

theorem ordG_eq {n : Nat} (h1 : 1 ≤ n) (h4 : n ≤ 4) (l : List Int) : ordG n l = ordR n l := by
  by_cases hl : l.length = n
  · by_cases hm : ∀ x ∈ l, 0 ≤ x ∧ x < n
    · obtain ⟨os, rfl, hos⟩ := nats_of hm
      rw [List.length_map] at hl
      subst hl
      match os, h1, h4 with
      | [a], _, _ => exact ord1 a (hos a (by simp))
      | [a, b], _, _ => exact ord2 a (hos a (by simp)) b (hos b (by simp))
      | [a, b, c], _, _ => exact ord3 a (hos a (by simp)) b (hos b (by simp)) c (hos c (by simp))
      | [a, b, c, d], _, _ => exact ord4 a (hos a (by simp)) b (hos b (by simp)) c (hos c (by simp)) d (hos d (by simp))
      | _ :: _ :: _ :: _ :: _ :: _, _, h => exact absurd h (by simp)
    · have e1 : ordGgo n 0 l = false := by
        cases h : ordGgo n 0 l
        · rfl
        · exact absurd (ordGgo_mem h) hm
      have e2 : ordRgo n 0 l = false := by
        cases h : ordRgo n 0 l
        · rfl
        · exact absurd (ordRgo_mem h) hm
      simp [ordG, ordR, e1, e2]
  · simp [ordG, ordR, hl]
theorem ordR_nats {n : Nat} {l : List Int} (h : ordR n l = true) : ∃ os : List Nat, l = os.map Int.ofNat ∧ (∀ x ∈ os, x < n) ∧ os.length = n := by
  unfold ordR at h
  rw [Bool.and_eq_true, decide_eq_true_eq] at h
  obtain ⟨os, rfl, hos⟩ := nats_of (ordRgo_mem h.1)
  exact ⟨os, rfl, hos, by simpa using h.2⟩

/- All orders level by level, and what an order's payments sum to: plain Lean. -/

/-- The orders one player longer than o. -/
def stepTo (o : List Nat) (i : Nat) : List (List Nat) := (List.range i).flatMap fun i => if i ∈ o then [] else [o ++ [i]]
def stepL (n : Nat) (M : List (List Nat)) : List (List Nat) := M.flatMap fun o => stepTo o n
def stepI (n : Nat) : Nat → List (List Nat) → List (List Nat)
  | 0, M => M
  | k + 1, M => stepL n (stepI n k M)
/-- All beginnings of orders with k players. -/
def lv (n k : Nat) : List (List Nat) := stepI n k [[]]
theorem lv_succ (n k : Nat) : lv n (k + 1) = stepL n (lv n k) := rfl
theorem stepTo_succ (o : List Nat) (i : Nat) : stepTo o (i + 1) = stepTo o i ++ (if i ∈ o then [] else [o ++ [i]]) := by simp [stepTo, List.range_succ]
theorem stepL_take {n : Nat} {M : List (List Nat)} {j : Nat} {o : List Nat} (h : M[j]? = some o) : stepL n (M.take (j + 1)) = stepL n (M.take j) ++ stepTo o n := by
  rw [List.take_add_one, h]; simp [stepL]
theorem stepI_comm (n k : Nat) (M : List (List Nat)) : stepI n (k + 1) M = stepI n k (stepL n M) := by
  induction k with
  | zero => rfl
  | succ k ih => show stepL n (stepI n (k + 1) M) = stepL n (stepI n k (stepL n M)); rw [ih]
theorem stepI_ext (n m : Nat) : ∀ M, stepI n m M = M.flatMap (ext n m) := by
  induction m with
  | zero =>
    intro M
    show M = M.flatMap fun pre => [pre]
    simp
  | succ m ih =>
    intro M
    rw [stepI_comm, ih]
    unfold stepL stepTo
    rw [List.flatMap_assoc]
    congr 1
    funext o
    rw [List.flatMap_assoc]
    show _ = (List.range n).flatMap _
    congr 1
    funext i
    split <;> simp
theorem lv_ext (n : Nat) : lv n n = ext n n [] := by
  unfold lv; rw [stepI_ext]; simp
theorem stepTo_len (o : List Nat) (i : Nat) : (stepTo o i).length ≤ i := by
  have := flatMap_len (fun i => if i ∈ o then [] else [o ++ [i]]) 1 (List.range i) (fun i _ => by split <;> simp)
  rwa [List.length_range, Nat.mul_one] at this
theorem stepL_len (n : Nat) (M : List (List Nat)) : (stepL n M).length ≤ M.length * n := flatMap_len _ _ _ fun o _ => stepTo_len o n
theorem lv_len (n k : Nat) : (lv n k).length ≤ n ^ k := by
  induction k with
  | zero => simp [lv, stepI]
  | succ k ih =>
    rw [lv_succ, Nat.pow_succ]
    exact Nat.le_trans (stepL_len _ _) (Nat.mul_le_mul_right _ ih)
theorem lv_mem {n k : Nat} : ∀ os ∈ lv n k, os.length = k ∧ ∀ x ∈ os, x < n := by
  induction k with
  | zero => intro os h; simp [lv, stepI] at h; subst h; simp
  | succ k ih =>
    intro os h
    rw [lv_succ] at h
    simp only [stepL, stepTo, List.mem_flatMap, List.mem_range] at h
    obtain ⟨o, ho, i, hi, h⟩ := h
    split at h
    · cases h
    · simp at h
      subst h
      have := ih o ho
      refine ⟨by simp [this.1], fun x hx => ?_⟩
      rcases List.mem_append.1 hx with hx | hx
      · exact this.2 x hx
      · simp at hx; omega

theorem sum_set {l : List Int} {i : Nat} {y x : Int} (h : l[i]? = some y) : (l.set i x).sum = l.sum - y + x := by
  induction l generalizing i with
  | nil => simp at h
  | cons a l ih =>
    cases i with
    | zero => simp at h; subst h; simp; omega
    | succ i => simp at h; have := ih h; simp [this]; omega
theorem join_sum (c : List Int) : ∀ (os : List Nat) (p : Nat × List Int), os.Nodup → (∀ x ∈ os, p.2[x]? = some 0) → (os.foldl (joinStep c) p).2.sum = p.2.sum + c.getD (os.foldl (joinStep c) p).1 0 - c.getD p.1 0 := by
  intro os
  induction os with
  | nil => intro p _ _; simp only [List.foldl_nil]; omega
  | cons x os ih =>
    intro p hn h
    rw [List.foldl_cons]
    have hn' := List.nodup_cons.1 hn
    have hx := h x (by simp)
    rw [ih (joinStep c p x) hn'.2 (fun y hy => by
      have hne : x ≠ y := fun e => hn'.1 (e ▸ hy)
      simp only [joinStep]
      rw [List.getElem?_set_ne hne]
      exact h y (by simp [hy]))]
    have : (joinStep c p x).2.sum = p.2.sum - 0 + (c.getD (joinStep c p x).1 0 - c.getD p.1 0) := sum_set hx
    rw [this]
    omega
/-- The set of an order's players. -/
def setOfO (os : List Nat) : Nat := os.foldl (fun s i => s ||| 2 ^ i) 0
theorem join_set (c : List Int) (os : List Nat) : ∀ p : Nat × List Int, (os.foldl (joinStep c) p).1 = os.foldl (fun s i => s ||| 2 ^ i) p.1 := by
  induction os with
  | nil => intro p; rfl
  | cons x os ih => intro p; rw [List.foldl_cons, List.foldl_cons, ih]; rfl
set_option maxRecDepth 100000 in
theorem ext_facts {n : Nat} (h1 : 1 ≤ n) (h4 : n ≤ 4) : ∀ os ∈ ext n n [], os.Nodup ∧ setOfO os = 2 ^ n - 1 ∧ ordG n (os.map Int.ofNat) = true := by
  match n, h1, h4 with
  | 1, _, _ => decide +kernel
  | 2, _, _ => decide +kernel
  | 3, _, _ => decide +kernel
  | 4, _, _ => decide +kernel
theorem joinL_sum {c : List Int} {n : Nat} (h1 : 1 ≤ n) (h4 : n ≤ 4) (h0 : c.getD 0 0 = 0) {os : List Nat} (ho : os ∈ ext n n []) : (joinL c os).sum = c.getD (2 ^ n - 1) 0 := by
  obtain ⟨hn, hs, _⟩ := ext_facts h1 h4 os ho
  have hm := ext_mem (n := n) (m := n) (pre := []) (by simp) os ho
  have hl : os.length = n := by simpa using hm.1
  have := join_sum c os (0, List.replicate os.length 0) hn (fun x hx => by
    have := hm.2 x hx
    rw [List.getElem?_replicate, if_pos (by omega)])
  rw [join_set] at this
  unfold joinL
  rw [this]
  show _ + c.getD (setOfO os) 0 - _ = _
  rw [hs, h0]
  simp
theorem take_sum_succ {l : List Int} {k : Nat} {x : Int} (h : l[k]? = some x) : (l.take (k + 1)).sum = (l.take k).sum + x := by
  rw [take_succ' h]; simp
theorem take_sum_bd {l : List Int} (h : ∀ y ∈ l, -1000 ≤ y ∧ y ≤ 1000) (k : Nat) : -(1000 * k) ≤ (l.take k).sum ∧ (l.take k).sum ≤ 1000 * k := by
  induction k with
  | zero => simp
  | succ k ih =>
    cases hx : l[k]? with
    | none =>
      have : l.take (k + 1) = l.take k := by rw [List.take_add_one, hx]; simp
      rw [this]; omega
    | some x => rw [take_sum_succ hx]; have := h x (List.mem_of_getElem? hx); omega

/- Where costs are concave, what players pay in any order is in the core, and so is the average. Plain Lean. -/

theorem concL_cases (c : List Int) : (∃ a b, concL c = (a, b, 0) ∧ a < c.length ∧ b < c.length ∧ badB c a b = true) ∨ (concL c = (0, 0, 4) ∧ ∀ a b, a < c.length → b < c.length → badB c a b = false) := by
  cases h : (List.range (c.length * c.length)).find? (fun t => badB c (t / c.length) (t % c.length)) with
  | some t =>
    refine .inl ⟨t / c.length, t % c.length, by unfold concL; rw [h], ?_, ?_, List.find?_some (p := fun t => badB c (t / c.length) (t % c.length)) h⟩
    · have := List.mem_range.1 (List.mem_of_find?_eq_some h)
      exact Nat.div_lt_of_lt_mul this
    · have := List.mem_range.1 (List.mem_of_find?_eq_some h)
      refine Nat.mod_lt _ ?_
      rcases Nat.eq_zero_or_pos c.length with e | e
      · rw [e] at this; omega
      · exact e
  | none =>
    refine .inr ⟨by unfold concL; rw [h], fun a b ha hb => ?_⟩
    have h1 := List.find?_eq_none.1 h (a * c.length + b) (List.mem_range.2 (by
      have : (a + 1) * c.length ≤ c.length * c.length := Nat.mul_le_mul_right _ ha
      rw [Nat.succ_mul] at this; omega))
    obtain ⟨e1, e2⟩ := div_pos_eq (a := a) hb
    rw [e1, e2] at h1
    cases hbb : badB c a b
    · rfl
    · exact absurd hbb h1
/-- No two sets show that costs are not concave. -/
def Conc (c : List Int) : Prop := ∀ a b, a < c.length → b < c.length → cq c (a ||| b) + cq c (a &&& b) ≤ cq c a + cq c b
theorem conc_of {c : List Int} (h : ∀ a b, a < c.length → b < c.length → badB c a b = false) : Conc c := by
  intro a b ha hb
  have h1 := h a b ha hb
  unfold badB at h1
  rw [decide_eq_false_iff_not] at h1
  unfold cq
  rw [← Rat.intCast_add, ← Rat.intCast_add, Rat.intCast_le_intCast]
  omega
/-- The payments so far, as fractions. -/
def payR (x : List Int) (i : Nat) : Rat := ((x.getD i 0 : Int) : Rat)
theorem dot_set {n i S : Nat} {x : List Int} (hi : i < n) (hl : x.length = n) (h0 : x[i]? = some 0) (v : Int) : dotS n (payR (x.set i v)) S = dotS n (payR x) S + bq S i * (v : Rat) := by
  have e : dotS n (payR (x.set i v)) S = sumQ (fun j => bq S j * payR x j + (if j = i then bq S i * (v : Rat) else 0)) n := by
    refine sumQ_congr fun j hj => ?_
    unfold payR
    by_cases e : j = i
    · subst e
      rw [if_pos rfl, List.getD_eq_getElem?_getD, List.getElem?_set_self (by omega), List.getD_eq_getElem?_getD, h0]
      simp only [Option.getD_some]
      grind
    · rw [if_neg e, List.getD_eq_getElem?_getD, List.getElem?_set_ne (fun h => e h.symm), ← List.getD_eq_getElem?_getD]
      grind
  rw [e, sumQ_add, sumQ_one (f := fun j => if j = i then bq S i * (v : Rat) else 0) hi (fun j _ hne => by rw [if_neg hne]), if_pos rfl]
  rfl
theorem and_or_in {S T i : Nat} (h : S.testBit i = true) : ((S &&& (T ||| 2 ^ i)) ||| T) = T ||| 2 ^ i ∧ ((S &&& (T ||| 2 ^ i)) &&& T) = S &&& T := by
  constructor
  · apply Nat.eq_of_testBit_eq
    intro j
    simp only [Nat.testBit_or, Nat.testBit_and, Nat.testBit_two_pow]
    by_cases e : i = j
    · subst e; simp [h]
    · simp [e]
  · apply Nat.eq_of_testBit_eq
    intro j
    simp only [Nat.testBit_or, Nat.testBit_and, Nat.testBit_two_pow]
    cases S.testBit j <;> cases T.testBit j <;> simp
theorem and_or_out {S T i : Nat} (h : S.testBit i = false) : (S &&& (T ||| 2 ^ i)) = S &&& T := by
  apply Nat.eq_of_testBit_eq
  intro j
  simp only [Nat.testBit_or, Nat.testBit_and, Nat.testBit_two_pow]
  by_cases e : i = j
  · subst e; simp [h]
  · simp [e]
theorem join_core {c : List Int} {n : Nat} (hN : c.length = 2 ^ n) (hc : Conc c) : ∀ (os : List Nat) (p : Nat × List Int), os.Nodup → (∀ x ∈ os, x < n) → (∀ x ∈ os, p.2[x]? = some 0) → p.1 < 2 ^ n → p.2.length = n →
    ((∀ S, S < 2 ^ n → dotS n (payR p.2) S ≤ cq c (S &&& p.1)) ∧ dotS n (payR p.2) (2 ^ n - 1) = cq c p.1) →
    ((∀ S, S < 2 ^ n → dotS n (payR (os.foldl (joinStep c) p).2) S ≤ cq c (S &&& (os.foldl (joinStep c) p).1)) ∧ dotS n (payR (os.foldl (joinStep c) p).2) (2 ^ n - 1) = cq c (os.foldl (joinStep c) p).1) := by
  intro os
  induction os with
  | nil => intro p _ _ _ _ _ h; exact h
  | cons i os ih =>
    intro p hd hlt h0 hT hl h
    have hd' := List.nodup_cons.1 hd
    have hi := hlt i (List.mem_cons_self ..)
    have hi0 := h0 i (List.mem_cons_self ..)
    have hT' : p.1 ||| 2 ^ i < 2 ^ n := or_pow_lt hT hi
    refine ih (joinStep c p i) hd'.2 (fun x hx => hlt x (List.mem_cons_of_mem _ hx)) (fun y hy => ?_) hT' (by simp [joinStep, hl]) ⟨fun S hS => ?_, ?_⟩
    · have hne : i ≠ y := fun e => hd'.1 (e ▸ hy)
      simp only [joinStep]
      rw [List.getElem?_set_ne hne]
      exact h0 y (List.mem_cons_of_mem _ hy)
    · have h1 := h.1 S hS
      simp only [joinStep]
      rw [dot_set hi hl hi0, Rat.intCast_sub]
      show dotS n (payR p.2) S + bq S i * (cq c (p.1 ||| 2 ^ i) - cq c p.1) ≤ cq c (S &&& (p.1 ||| 2 ^ i))
      unfold bq bitI
      cases hb : S.testBit i
      · rw [and_or_out hb]
        simp only [Bool.false_eq_true, if_false]
        have : ((((0 : Nat) : Int)) : Rat) = 0 := rfl
        rw [this]
        grind
      · obtain ⟨e1, e2⟩ := and_or_in (T := p.1) hb
        have h2 := hc (S &&& (p.1 ||| 2 ^ i)) p.1 (by rw [hN]; exact and_lt hS) (by rw [hN]; exact hT)
        rw [e1, e2] at h2
        simp only [if_true]
        have : ((((1 : Nat) : Int)) : Rat) = 1 := rfl
        rw [this]
        grind
    · simp only [joinStep]
      rw [dot_set hi hl hi0, Rat.intCast_sub, h.2, bq_all hi]
      show cq c p.1 + 1 * (cq c (p.1 ||| 2 ^ i) - cq c p.1) = cq c (p.1 ||| 2 ^ i)
      grind
/-- Whatever order: payments in the core. -/
theorem joinL_core {c : List Int} {n : Nat} (hN : c.length = 2 ^ n) (hc : Conc c) (h0 : c.getD 0 0 = 0) {os : List Nat} (hd : os.Nodup) (hlt : ∀ x ∈ os, x < n) (hl : os.length = n) (hs : setOfO os = 2 ^ n - 1) : InC c n (payR (joinL c os)) := by
  have hz : ∀ S, dotS n (payR (List.replicate os.length (0 : Int))) S = 0 := fun S => sumQ_zero fun j hj => by
    unfold payR
    rw [List.getD_eq_getElem?_getD, List.getElem?_replicate, if_pos (by omega)]
    simp
  have hc0 : cq c 0 = 0 := by unfold cq; rw [h0]; rfl
  have h := join_core hN hc os (0, List.replicate os.length 0) hd hlt (fun x hx => by
    have := hlt x hx
    rw [List.getElem?_replicate, if_pos (by omega)]) (Nat.two_pow_pos n) (by simp [hl]) ⟨fun S _ => by rw [hz, Nat.and_zero, hc0]; exact Rat.le_refl, by rw [hz, hc0]⟩
  rw [join_set] at h
  have e : (os.foldl (fun s i => s ||| 2 ^ i) (0, List.replicate os.length (0 : Int)).1) = 2 ^ n - 1 := hs
  rw [e] at h
  refine ⟨h.2, fun S hS => ?_⟩
  have h1 := h.1 S hS
  rwa [Nat.and_two_pow_sub_one_eq_mod, Nat.mod_eq_of_lt hS] at h1

/- Contract: slices.Equal of ints. -/

set_option maxHeartbeats 800000 in
theorem equal_any (A A' : Option Addr) (n n' cap cap' : Nat) (ps qs : List Int) (w : World) (hl : ps.length = n) (hl' : qs.length = n') (hm : n ≤ 9223372036854775807) (h : Ints w A ps) (h' : Ints w A' qs) :
    Calls Try.prog 32 #[.slice A n cap, .slice A' n' cap'] w fun e w' => e = .returned (.bool (eqB ps qs)) ∧ ∃ m, w' = w.drewN m := by
  by_cases hnn : n = n'
  · subst hnn
    by_cases h0 : n = 0
    · subst h0
      obtain rfl := List.eq_nil_of_length_eq_zero hl
      obtain rfl := List.eq_nil_of_length_eq_zero hl'
      go_enter Try.func32, Try.ntmps32
      go_wp2
      refine wp_loop_rounds 1 ?_
      rw [rounds_succ]
      go_wp2
      go_ret
      exact ⟨rfl, 0, rfl⟩
    · obtain ⟨ad, rfl, _, hc⟩ := h.some_ (by omega)
      obtain ⟨ad', rfl, _, hc'⟩ := h'.some_ (by omega)
      have H := Lib.hid (And.intro hl (And.intro hl' (And.intro hc hc')))
      clear hl hl' hc hc' h h'
      go_enter Try.func32, Try.ntmps32
      go_wp2
      go_loopw [13] (fun iv wr => ∃ k : Nat, k ≤ n ∧ iv = .int .i64 k ∧ ps.take k = qs.take k ∧ ∃ m, wr = w.drewN m) (fun iv _ => n - (intOf iv).toNat)
      case atStart => exact ⟨0, Nat.zero_le _, rfl, rfl, 0, rfl⟩
      case round =>
        obtain ⟨k, hk, rfl, ht, m, rfl⟩ := hrel
        have HT := Lib.hid ht
        clear ht
        obtain ⟨hl, hl', hc, hc'⟩ := H.out
        by_cases hlt : k < n
        · obtain ⟨p, hp⟩ : ∃ p, ps[k]? = some p := ⟨_, List.getElem?_eq_getElem (by omega)⟩
          obtain ⟨q, hq⟩ : ∃ q, qs[k]? = some q := ⟨_, List.getElem?_eq_getElem (by omega)⟩
          have c1 := hc k p hp
          have c2 := hc' k q hq
          have HP := Lib.hid (And.intro hp hq)
          clear hp hq hc hc' hl hl'
          by_cases he : p = q
          · subst he
            go_wp2_with fail
            go_quiet (fail)
            go_wp2_with fail
            go_roundw
            case rel => exact ⟨k + 1, by omega, by go_num, take_eq_succ HP.out.1 HP.out.2 HT.out, by first | exact ⟨_, rfl⟩ | exact ⟨_, World.drewN_drewN _ _ _⟩⟩
            case measure => simp [intOf]; omega
          · have hne : (p != q) = true := by simpa using he
            have HNE := Lib.hid he
            clear he
            go_wp2_with fail
            go_quiet (fail)
            go_wp2_with fail
            go_ret
            exact ⟨ret_bool (eqB_at HP.out.1 HP.out.2 HNE.out).symm, by first | exact ⟨_, rfl⟩ | exact ⟨_, World.drewN_drewN _ _ _⟩⟩
        · obtain rfl : k = n := by omega
          have HF : Hid (eqB ps qs = true) := Lib.hid (eqB_all hl hl' HT.out)
          clear hl hl' hc hc'
          go_wp2
          go_ret
          exact ⟨ret_bool HF.out.symm, m, rfl⟩
  · have HF : Hid (eqB ps qs = false) := Lib.hid (eqB_len (by omega))
    have hne : ((n : Int) != (n' : Int)) = true := by rw [bne_iff_ne]; omega
    clear hl hl' h h'
    go_enter Try.func32, Try.ntmps32
    go_wp2
    go_ret
    exact ⟨ret_bool HF.out.symm, 0, rfl⟩

/- Contracts: isOrder and Join of package games, IsOrder and Join of package corrodyref07. -/

theorem drop_cons {α : Type} {l : List α} {k : Nat} {x : α} (h : l[k]? = some x) : l.drop k = x :: l.drop (k + 1) := by
  obtain ⟨hk, he⟩ := List.getElem?_eq_some_iff.1 h
  rw [List.drop_eq_getElem_cons hk, he]
theorem ordRgo_bad {n met : Nat} {x : Int} {l : List Int} (h : x < 0 ∨ (n : Int) ≤ x) : ordRgo n met (x :: l) = false := by
  rw [ordRgo, if_pos (by omega)]
theorem ordRgo_met {n met y : Nat} {l : List Int} (h : met.testBit y = true) : ordRgo n met ((y : Int) :: l) = false := by
  rw [Nat.testBit_eq_decide_div_mod_eq] at h
  rw [ordRgo, if_pos (.inr (.inr (by simpa using h)))]
theorem ordRgo_on {n met y : Nat} {l : List Int} (hy : y < n) (h : met.testBit y = false) : ordRgo n met ((y : Int) :: l) = ordRgo n (met ||| 2 ^ y) l := by
  rw [Nat.testBit_eq_decide_div_mod_eq] at h
  have : ¬ met / 2 ^ y % 2 = 1 := by simpa using h
  rw [ordRgo, if_neg (by rintro (h | h | h) <;> first | omega | exact this (by simpa using h))]
  simp
theorem ordGgo_bad {n met : Nat} {x : Int} {l : List Int} (h : x < 0 ∨ (n : Int) ≤ x) : ordGgo n met (x :: l) = false := by
  rw [ordGgo, if_pos (by omega)]
theorem ordGgo_on {n met y : Nat} {l : List Int} (hy : y < n) : ordGgo n met ((y : Int) :: l) = ordGgo n (met ||| 2 ^ y) l := by
  rw [ordGgo, if_neg (by omega)]
  simp

set_option maxHeartbeats 800000 in
theorem risorder_any (A : Option Addr) (m cap : Nat) (l : List Int) (n : Nat) (w : World) (hl : l.length = m) (hm : m ≤ 9223372036854775807) (hn : n ≤ 4) (h : Ints w A l) :
    Calls Try.prog 31 #[.slice A m cap, .int .i64 n] w fun e w' => e = .returned (.bool (ordR n l)) ∧ w = w' := by
  have hI := fun (hp : 0 < l.length) => h.some_ hp
  have H := Lib.hid (And.intro hl hI)
  clear hl h hI
  go_enter Try.func31, Try.ntmps31
  go_wp2
  go_loop [5, 10] (fun s i => ∃ k met : Nat, k ≤ m ∧ i = .int .i64 k ∧ s = .int .i64 met ∧ met < 2 ^ n ∧ ordRgo n 0 l = ordRgo n met (l.drop k)) (fun _ i => m - (intOf i).toNat)
  case atStart => exact ⟨0, 0, Nat.zero_le _, rfl, rfl, Nat.pos_of_neZero _, rfl⟩
  case round =>
    obtain ⟨k, met, hk, rfl, rfl, hb, hg⟩ := hrel
    have hp : 2 ^ n ≤ 16 := by have := Nat.pow_le_pow_right (show 0 < 2 by omega) hn; simpa using this
    have HG := Lib.hid (And.intro hg hb)
    have hb16 : met < 16 := by omega
    clear hg hb hp
    by_cases hlt : k < m
    · obtain ⟨hl, hI⟩ := H.out
      obtain ⟨ad, rfl, _, hc⟩ := hI (by omega)
      obtain ⟨x, hx⟩ : ∃ x, l[k]? = some x := ⟨_, List.getElem?_eq_getElem (by omega)⟩
      have hcell := hc k x hx
      have HD := Lib.hid (drop_cons hx)
      clear hl hI hc hx
      by_cases h1 : x < 0
      · have HR : Hid (ordR n l = false) := Lib.hid (by unfold ordR; rw [HG.out.1, HD.out, ordRgo_bad (.inl h1)]; rfl)
        go_wp2
        go_ret
        exact ⟨ret_bool HR.out.symm, rfl⟩
      · by_cases h2 : (n : Int) ≤ x
        · have HR : Hid (ordR n l = false) := Lib.hid (by unfold ordR; rw [HG.out.1, HD.out, ordRgo_bad (.inr h2)]; rfl)
          go_wp2
          go_ret
          exact ⟨ret_bool HR.out.symm, rfl⟩
        · obtain ⟨y, rfl⟩ := Int.eq_ofNat_of_zero_le (show 0 ≤ x by omega)
          have hy : y < n := by omega
          have hy4 : y < 4 := by omega
          cases ht : met.testBit y
          · have t1 := and_shr_f (set := met) (k := y) (by omega) ht
            have e1 := or_pow met y (by omega) (by omega)
            have e2 := or_pow' met y (by omega) (by omega)
            obtain ⟨s', hs'⟩ : ∃ s', s' = met ||| 2 ^ y := ⟨_, rfl⟩
            rw [← hs'] at e1 e2
            have HN : Hid (s' < 2 ^ n ∧ ordRgo n 0 l = ordRgo n s' (l.drop (k + 1))) := Lib.hid ⟨by rw [hs']; exact or_pow_lt HG.out.2 hy, by rw [HG.out.1, HD.out, ordRgo_on hy ht, hs']⟩
            clear ht hs'
            go_wp2
            go_round
            case rel => exact ⟨k + 1, s', by omega, by go_num, rfl, HN.out.1, HN.out.2⟩
            case measure => simp [intOf]; omega
          · have t1 := and_shr_t (set := met) (k := y) (by omega) ht
            have HR : Hid (ordR n l = false) := Lib.hid (by unfold ordR; rw [HG.out.1, HD.out, ordRgo_met ht]; rfl)
            clear ht
            go_wp2
            go_ret
            exact ⟨ret_bool HR.out.symm, rfl⟩
    · obtain rfl : k = m := by omega
      have HR : Hid (ordR n l = decide (k = n)) := Lib.hid (by unfold ordR; rw [HG.out.1, List.drop_of_length_le (by rw [H.out.1]; omega), H.out.1]; simp [ordRgo])
      by_cases hkn : k = n
      · have hd : ((k : Int) == (n : Int)) = true := by simp [hkn]
        have HK := Lib.hid hkn
        clear hkn
        go_wp2
        go_ret
        exact ⟨ret_bool (by rw [HR.out]; simp [HK.out]), rfl⟩
      · have hd : ((k : Int) == (n : Int)) = false := by simp; omega
        go_wp2
        go_ret
        exact ⟨ret_bool (by rw [HR.out]; simp [hkn]), rfl⟩

theorem np_cases {n N : Nat} (h1 : 1 ≤ n) (h4 : n ≤ 4) (hN : N = 2 ^ n) : N = 2 ∧ n = 1 ∨ N = 4 ∧ n = 2 ∨ N = 8 ∧ n = 3 ∨ N = 16 ∧ n = 4 := by
  subst hN
  match n, h1, h4 with
  | 1, _, _ => simp
  | 2, _, _ => simp
  | 3, _, _ => simp
  | 4, _, _ => simp

set_option maxHeartbeats 800000 in
theorem gisorder_any (C : Option Addr) (N capc : Nat) (A : Option Addr) (m cap : Nat) (l : List Int) (n : Nat) (w : World) (hl : l.length = m) (hm : m ≤ 9223372036854775807) (h1 : 1 ≤ n) (hn : n ≤ 4) (hN : N = 2 ^ n) (h : Ints w A l) :
    Calls Try.prog 64 #[.slice C N capc, .slice A m cap] w fun e w' => e = .returned (.bool (ordG n l)) ∧ w = w' := by
  have hI := fun (hp : 0 < l.length) => h.some_ hp
  have hnp := np_cases h1 hn hN
  have H := Lib.hid (And.intro hl (And.intro hI (And.intro hnp hN)))
  have hN16 : 2 ≤ N ∧ N ≤ 16 := by omega
  clear hl h hI hnp hN
  go_enter Try.func64, Try.ntmps64
  go_wp2_with fail
  go_loop [5, 10] (fun s i => ∃ k met : Nat, k ≤ m ∧ i = .int .i64 k ∧ s = .int .i64 met ∧ met < 2 ^ n ∧ ordGgo n 0 l = ordGgo n met (l.drop k)) (fun _ i => m - (intOf i).toNat)
  case atStart => exact ⟨0, 0, Nat.zero_le _, rfl, rfl, Nat.pos_of_neZero _, rfl⟩
  case round =>
    obtain ⟨k, met, hk, rfl, rfl, hb, hg⟩ := hrel
    have hp : 2 ^ n ≤ 16 := by have := Nat.pow_le_pow_right (show 0 < 2 by omega) hn; simpa using this
    have HG := Lib.hid (And.intro hg hb)
    have hb16 : met < 16 := by omega
    clear hg hb hp
    by_cases hlt : k < m
    · obtain ⟨hl, hI, hnp, hN⟩ := H.out
      obtain ⟨ad, rfl, _, hc⟩ := hI (by omega)
      obtain ⟨x, hx⟩ : ∃ x, l[k]? = some x := ⟨_, List.getElem?_eq_getElem (by omega)⟩
      have hcell := hc k x hx
      have HD := Lib.hid (drop_cons hx)
      clear hl hI hc hx hnp hN
      by_cases h1 : x < 0
      · have HR : Hid (ordG n l = false) := Lib.hid (by unfold ordG; rw [HG.out.1, HD.out, ordGgo_bad (.inl h1)]; rfl)
        go_wp2_with fail
        go_ret
        exact ⟨ret_bool HR.out.symm, rfl⟩
      · by_cases h2 : (n : Int) ≤ x
        · have HR : Hid (ordG n l = false) := Lib.hid (by unfold ordG; rw [HG.out.1, HD.out, ordGgo_bad (.inr h2)]; rfl)
          go_wp2_with fail
          refine (players_any _ _ n _ _ H.out.2.2.1).mono ?_
          rintro e w' ⟨rfl, rfl⟩
          go_wp2_with fail
          go_ret
          exact ⟨ret_bool HR.out.symm, rfl⟩
        · obtain ⟨y, rfl⟩ := Int.eq_ofNat_of_zero_le (show 0 ≤ x by omega)
          have hy : y < n := by omega
          have hy4 : y < 4 := by omega
          have e1 := or_pow met y (by omega) (by omega)
          have e2 := or_pow' met y (by omega) (by omega)
          obtain ⟨s', hs'⟩ : ∃ s', s' = met ||| 2 ^ y := ⟨_, rfl⟩
          rw [← hs'] at e1 e2
          have HN : Hid (s' < 2 ^ n ∧ ordGgo n 0 l = ordGgo n s' (l.drop (k + 1))) := Lib.hid ⟨by rw [hs']; exact or_pow_lt HG.out.2 hy, by rw [HG.out.1, HD.out, ordGgo_on hy, hs']⟩
          clear hs'
          go_wp2_with fail
          refine (players_any _ _ n _ _ H.out.2.2.1).mono ?_
          rintro e w' ⟨rfl, rfl⟩
          go_wp2_with fail
          go_round
          case rel => exact ⟨k + 1, s', by omega, by go_num, rfl, HN.out.1, HN.out.2⟩
          case measure => simp [intOf]; omega
    · obtain rfl : k = m := by omega
      have HR : Hid (ordG n l = (decide (met = 2 ^ n - 1) && decide (k = n))) := Lib.hid (by unfold ordG; rw [HG.out.1, List.drop_of_length_le (by rw [H.out.1]; omega), H.out.1]; simp [ordGgo])
      by_cases hkn : k = n
      · have hd : ((k : Int) == (n : Int)) = true := by simp [hkn]
        have HK := Lib.hid hkn
        clear hkn
        have hNN := H.out.2.2.2
        cases hs : decide (met = 2 ^ n - 1)
        · have he : ((met : Int) == (N : Int) - 1) = false := by
            rw [decide_eq_false_iff_not] at hs
            rw [beq_eq_false_iff_ne]; omega
          have HS := Lib.hid hs
          clear hs hNN
          go_wp2_with fail
          refine (players_any _ _ n _ _ H.out.2.2.1).mono ?_
          rintro e w' ⟨rfl, rfl⟩
          go_wp2_with fail
          go_ret
          exact ⟨ret_bool (by rw [HR.out, HS.out]; rfl), rfl⟩
        · have he : ((met : Int) == (N : Int) - 1) = true := by
            rw [decide_eq_true_eq] at hs
            have hpos : 0 < 2 ^ n := Nat.pos_of_neZero _
            rw [beq_iff_eq]; omega
          have HS := Lib.hid hs
          clear hs hNN
          go_wp2_with fail
          refine (players_any _ _ n _ _ H.out.2.2.1).mono ?_
          rintro e w' ⟨rfl, rfl⟩
          go_wp2_with fail
          go_ret
          exact ⟨ret_bool (by rw [HR.out, HS.out]; simp [HK.out]), rfl⟩
      · have hd : ((k : Int) == (n : Int)) = false := by simp; omega
        go_wp2_with fail
        refine (players_any _ _ n _ _ H.out.2.2.1).mono ?_
        rintro e w' ⟨rfl, rfl⟩
        go_wp2_with fail
        go_ret
        exact ⟨ret_bool (by rw [HR.out]; simp [hkn]), rfl⟩

/-- Join of an order. -/
def joinZ (c l : List Int) : List Int := joinL c (l.map Int.toNat)
theorem toNat_of {l : List Int} (os : List Nat) (h : l = os.map Int.ofNat) : l.map Int.toNat = os := by
  subst h
  rw [List.map_map]
  conv => rhs; rw [← List.map_id os]
  apply List.map_congr_left
  intro x _
  rfl

set_option maxHeartbeats 800000 in
theorem gjoin_ok (ac : Addr) (N capc : Nat) (A : Option Addr) (m cap : Nat) (c l : List Int) (w : World) (hlc : c.length = N) (hv : valC c = true) (hl : l.length = m) (hm : m ≤ 9223372036854775807)
    (hc : Ints w (some ac) c) (h : Ints w A l) (ho : ordG (plr c) l = true) :
    Calls Try.prog 28 #[.slice (some ac) N capc, .slice A m cap] w fun e w' => ∃ g, e = .returned (.tuple #[.slice (some ⟨g, 0, none⟩) (plr c) (plr c), .int .i64 0]) ∧ w.heap.size ≤ g ∧ Blk w' g 3 (arr (joinZ c l)) ∧ Below w.heap.size w w' := by
  have hp := valC_pow hv
  have hmem : ∀ x ∈ l, 0 ≤ x ∧ x < plr c := by
    unfold ordG at ho
    rw [Bool.and_eq_true] at ho
    exact ordGgo_mem ho.1
  have hlen : l.length = plr c := by
    unfold ordG at ho
    rw [Bool.and_eq_true, decide_eq_true_eq] at ho
    exact ho.2
  obtain ⟨os, hos, hon⟩ := nats_of hmem
  obtain ⟨n, hn⟩ : ∃ n, n = plr c := ⟨_, rfl⟩
  rw [← hn] at hp hon hlen ho ⊢
  have H := Lib.hid (And.intro hlc (And.intro hv (And.intro hl (And.intro hc (And.intro h (And.intro ho (And.intro hp (And.intro hlen (And.intro hos hon)))))))))
  have hn4 : 1 ≤ n ∧ n ≤ 4 := hp.2
  have hN16 : 2 ≤ N ∧ N ≤ 16 := by have := (valC_iff.1 hv).1; omega
  clear hlc hv hl hc h ho hp hlen hos hon hmem hn
  go_enter Try.func28, Try.ntmps28
  go_wp2_with fail
  refine (valid_any (some ac) N capc c _ H.out.1 (by omega) H.out.2.2.2.1).mono ?_
  rintro e w1 ⟨rfl, hb⟩
  rw [H.out.2.1]
  have HB := Lib.hid hb
  clear hb
  go_wp2_with fail
  refine (gisorder_any _ N _ A m cap l n _ H.out.2.2.1 hm hn4.1 hn4.2 (by rw [← H.out.1]; exact H.out.2.2.2.2.2.2.1.1) (H.out.2.2.2.2.1.below HB.out)).mono ?_
  rintro e w' ⟨rfl, rfl⟩
  rw [H.out.2.2.2.2.2.1]
  have hmn : m = n := by rw [← H.out.2.2.1]; exact H.out.2.2.2.2.2.2.2.1
  subst hmn
  obtain ⟨ad, hA, _, _⟩ := (H.out.2.2.2.2.1).some_ (by rw [H.out.2.2.1]; omega)
  subst hA
  go_wp2_with fail
  obtain ⟨hlc, hv, hl, hc, h, ho, hp, hlen, hos, hon⟩ := H.out
  refine (join_any ad ac N _ m _ c os _ hn4.2 (by rw [← hlc]; exact hp.1) hlc (by rw [hos] at hlen; simpa using hlen)
    (fun i x hi => (hc.below HB.out).some2 i _ (by simp [hi])) (fun i x hi => (h.below HB.out).some2 i _ (by rw [hos]; simp [hi])) hon (valC_iff.1 hv).2.2).mono ?_
  rintro e w2 ⟨rfl, hJ, hb2⟩
  have hbl : Below w.heap.size w w2 := HB.out.trans (hb2.mono HB.out.size)
  have HJ : Hid (joinL c os = joinZ c l) := Lib.hid (by unfold joinZ; rw [toNat_of os hos])
  have HF := Lib.hid (And.intro hJ hbl)
  have hsz := HB.out.size
  clear hJ hb2 hbl hlc hv hl hc h ho hp hlen hos hon
  go_wp2_with fail
  go_ret2
  exact ⟨_, rfl, hsz, by rw [← HJ.out]; exact HF.out.1, HF.out.2⟩

set_option maxHeartbeats 800000 in
theorem gjoin_bad (C : Option Addr) (N capc : Nat) (A : Option Addr) (m cap : Nat) (c l : List Int) (w : World) (hlc : c.length = N) (hN : N ≤ 9223372036854775807) (hl : l.length = m) (hm : m ≤ 9223372036854775807)
    (hc : Ints w C c) (h : Ints w A l) (ho : valC c = false ∨ valC c = true ∧ ordG (plr c) l = false) :
    Calls Try.prog 28 #[.slice C N capc, .slice A m cap] w fun e w' => e = .returned (.tuple #[.slice none 0 0, .int .i64 2]) ∧ Below w.heap.size w w' := by
  have H := Lib.hid (And.intro hlc (And.intro hl (And.intro hc h)))
  clear hlc hl hc h
  rcases ho with hv | ⟨hv, ho⟩
  · have HV := Lib.hid hv
    clear hv
    go_enter Try.func28, Try.ntmps28
    go_wp2_with fail
    refine (valid_any C N capc c _ H.out.1 hN H.out.2.2.1).mono ?_
    rintro e w1 ⟨rfl, hb⟩
    rw [HV.out]
    have HB := Lib.hid hb
    clear hb
    go_wp2_with fail
    go_ret2
    exact ⟨rfl, HB.out⟩
  · have hp := valC_pow hv
    have HV := Lib.hid (And.intro hv (And.intro ho hp))
    obtain ⟨n, hn⟩ : ∃ n, n = plr c := ⟨_, rfl⟩
    have HN := Lib.hid hn
    have hn4 : 1 ≤ n ∧ n ≤ 4 := by rw [hn]; exact hp.2
    have hN16 : 2 ≤ N ∧ N ≤ 16 := by have := (valC_iff.1 hv).1; have := H.out.1; omega
    clear hv ho hp hn
    go_enter Try.func28, Try.ntmps28
    go_wp2_with fail
    refine (valid_any C N capc c _ H.out.1 hN H.out.2.2.1).mono ?_
    rintro e w1 ⟨rfl, hb⟩
    rw [HV.out.1]
    have HB := Lib.hid hb
    clear hb
    go_wp2_with fail
    refine (gisorder_any _ N _ A m cap l n _ H.out.2.1 hm hn4.1 hn4.2 (by rw [← H.out.1, HN.out]; exact HV.out.2.2.1) (H.out.2.2.2.below HB.out)).mono ?_
    rintro e w' ⟨rfl, rfl⟩
    rw [HN.out, HV.out.2.1]
    go_wp2_with fail
    go_ret2
    exact ⟨rfl, HB.out⟩

/- The laws of append of the text before, as laws of a walk. -/

theorem freshN {T e : TypeId} {z : Value} {size bytes : Nat} (ty : STy T e z size bytes) {ops : Array Oper} {rest : List Oper} {o : Oper} {a : Act} {Q : Exit → Act → World → Prop} {w : World}
    (hgd : o.guard = none) (s x : Operand) (ho : o.op = .call { callee := .builtin .append, args := #[s, x], argTypes := #[T, T] })
    (A : Option Addr) (n : Nat) (olds : List Value) (hlo : olds.length = n * size) (hA : At w A olds) (h0 : A = none → n = 0) (hd : n ≠ 0 → ∃ ad, A = some ad)
    (ad : Addr) (m c : Nat) (news : List Value) (hl : news.length = m * size) (hnews : ∀ j u, news[j]? = some u → w.cell? (ad.add j) = some u)
    (hs : a.eval s = .slice A n n) (hx : a.eval x = .slice (some ad) m c) (hm : 0 < m) (hn : n + m ≤ 1000000)
    (h : ∀ (k' : Nat) (w' : World), w'.ownsRow w.heap.size e size (.slice (some ⟨w.heap.size, 0, none⟩) (n + m) k') (n + m) (olds ++ news) → Below w.heap.size w w' → n + m ≤ k' → k' ≤ 9223372036854775807 →
      wpList Try.prog ops Q rest (a.put o.dst (.slice (some ⟨w.heap.size, 0, none⟩) (n + m) k')) w') : wpList Try.prog ops Q (o :: rest) a w :=
  wpList_plain hgd fun _ hK => wp_fresh ty s x ho A n olds hlo hA h0 hd ad m c news hl hnews hs hx hm hn fun k' w' a1 a2 a3 a4 => hK _ _ (h k' w' a1 a2 a3 a4)

/-- One element, whose block's number is spelled in some way. -/
theorem app1h {T e : TypeId} {z : Value} {size bytes : Nat} (ty : STy T e z size bytes) {ops : Array Oper} {rest : List Oper} {o : Oper} {a : Act} {Q : Exit → Act → World → Prop} {w : World}
    (hgd : o.guard = none) (s x : Operand) (ho : o.op = .call { callee := .builtin .append, args := #[s, x], argTypes := #[T, T] })
    (base : Nat) (A : Option Addr) (n k : Nat) (xs : List Value) (cs : Array Value) (hcs : cs.size = size) (h1 : ∀ u ∈ cs.toList, u.oneCell' = true)
    (hs : a.eval s = .slice A n k) (hown : w.ownsRow base e size (.slice A n k) n xs) (g : Nat) (hx : a.eval x = .slice (some ⟨g, 0, none⟩) 1 1) (hg : g = w.heap.size)
    (hn : n ≤ 1000000) (hb : base ≤ w.heap.size)
    (h : ∀ (A' : Option Addr) (k' : Nat) (w' : World), w'.ownsRow base e size (.slice A' (n + 1) k') (n + 1) (xs ++ cs.toList) → w.grownBy w' (Value.slice A n k).ownBlock → Below base w w' → n + 1 ≤ k' → k' ≤ 9223372036854775807 →
      wpList Try.prog ops Q rest (a.put o.dst (.slice A' (n + 1) k')) w') : wpList Try.prog ops Q (o :: rest) a (w.alloc (.cells cs e)) := by
  subst hg
  exact app1 ty hgd s x ho base A n k xs cs hcs h1 hs hown hx hn hb h
/-- Any elements, also none of nil, to an owned slice. -/
theorem appN {T e : TypeId} {z : Value} {size bytes : Nat} (ty : STy T e z size bytes) {ops : Array Oper} {rest : List Oper} {o : Oper} {a : Act} {Q : Exit → Act → World → Prop} {w : World}
    (hgd : o.guard = none) (s x : Operand) (ho : o.op = .call { callee := .builtin .append, args := #[s, x], argTypes := #[T, T] })
    (base : Nat) (A : Option Addr) (n k : Nat) (xs : List Value)
    (hs : a.eval s = .slice A n k) (hown : w.ownsRow base e size (.slice A n k) n xs)
    (B : Option Addr) (m c : Nat) (news : List Value) (hB : B = none → m = 0 ∧ c = 0) (hl : news.length = m * size) (hnews : At w B news) (h1 : ∀ u ∈ news, u.oneCell' = true) (hx : a.eval x = .slice B m c)
    (hn : n + m ≤ 1000000) (hb : base ≤ w.heap.size)
    (h : ∀ (A' : Option Addr) (k' : Nat) (w' : World), w'.ownsRow base e size (.slice A' (n + m) k') (n + m) (xs ++ news) → w.grownBy w' (Value.slice A n k).ownBlock → Below base w w' → n + m ≤ k' → k' ≤ 9223372036854775807 →
      wpList Try.prog ops Q rest (a.put o.dst (.slice A' (n + m) k')) w') : wpList Try.prog ops Q (o :: rest) a w := by
  cases B with
  | none =>
    obtain ⟨rfl, rfl⟩ := hB rfl
    obtain rfl : news = [] := List.eq_nil_of_length_eq_zero (by simpa using hl)
    obtain ⟨i0, hi, _, hz1, _⟩ := info_parts ty.inf
    subst hz1
    refine wpList_append_own_none hgd s x T ho base e i0 i0.size ty.ht hi (.slice A n k) n xs hs (by simpa using hown) hx ?_
    obtain ⟨_, _, he, h3, h4, _⟩ := own_form hown
    injection he with _ _ he
    subst he
    exact h A k w (by simpa using hown) ⟨rfl, rfl, rfl, Nat.le_refl _, fun _ _ _ => rfl⟩ (Below.refl _ _) (by omega) h4
  | some ad => exact wpList_plain hgd fun _ hK => wp_appN ty s x ho base A n k xs hs hown ad m c news hl (At.some2 hnews) h1 hx hn hb fun A' k' w' a1 a2 a3 a4 a5 => hK _ _ (h A' k' w' a1 a2 a3 a4 a5)

/- Contract: orders of package corrodyref07: the list of all orders that begin in some way. -/

def zs (L : List (List Nat)) : List (List Int) := L.map fun os => os.map Int.ofNat
theorem zs_length (L : List (List Nat)) : (zs L).length = L.length := by simp [zs]
theorem zs_append (L M : List (List Nat)) : zs (L ++ M) = zs L ++ zs M := by simp [zs]

/-- All rows lie from some block on. -/
def RowsLo (lo : Nat) (vs : List Value) : Prop := ∀ v ∈ vs, ∀ ad n c, v = .slice (some ad) n c → lo ≤ ad.block
/-- What orders leaves. -/
def OrdPost (lo b : Nat) (L : List (List Nat)) (w : World) (e : Ending) (w' : World) : Prop :=
  ∃ A' k' vs, e = .returned (.slice A' L.length k') ∧ w'.ownsRow w.heap.size 22 1 (.slice A' L.length k') L.length vs ∧ Rows w' b vs (zs L) ∧ RowsLo lo vs ∧ Below w.heap.size w w'

theorem has_take_succ {xs : List Int} {k : Nat} {x y : Int} (h : xs[k]? = some x) : has (xs.take (k + 1)) y = (has (xs.take k) y || x == y) := by
  rw [take_succ' h]
  unfold has
  rw [Bool.eq_iff_iff]
  simp only [List.mem_append, List.mem_singleton, decide_eq_true_eq, Bool.or_eq_true, beq_iff_eq]
  constructor
  · rintro (h | h); exact .inl h; exact .inr h.symm
  · rintro (h | h); exact .inl h; exact .inr h.symm

theorem row1_of_ints {w : World} {A : Option Addr} {cap b : Nat} {os : List Int} (hI : Ints w A os) (hc : os.length ≤ cap) (hm : cap ≤ 9223372036854775807) (hb : ∀ ad, A = some ad → ad.block < b) : Row1 w b (.slice A os.length cap) os :=
  ⟨A, cap, rfl, hc, hm, hI, fun ad h => .inl (hb ad h)⟩

set_option maxRecDepth 100000 in
set_option maxHeartbeats 1600000 in
theorem rorders_any (n : Nat) (hn : n ≤ 4) (m : Nat) : ∀ (pre : List Nat) (l : Nat) (A : Option Addr) (cap : Nat) (w : World) (b lo : Nat), pre.length = l → l + m = n → l ≤ cap → cap ≤ 9223372036854775807 → (A = none → l = 0 ∧ cap = 0) → b ≤ w.heap.size → lo ≤ w.heap.size → (∀ ad, A = some ad → lo ≤ ad.block) → Row1 w b (.slice A l cap) (pre.map Int.ofNat) → (∀ x ∈ pre, x < n) →
    Calls Try.prog 65 #[.int .i64 n, .slice A l cap] w (OrdPost lo b (ext n m pre) w) := by
  induction m with
  | zero =>
    intro pre l A cap w b lo hpl hlm hlc hcm h0 hb hlo hAlo hrow hpn
    obtain rfl : l = n := by omega
    have H := Lib.hid (And.intro hrow (And.intro hpl hAlo))
    clear hrow hpl h0 hAlo
    go_enter Try.func65, Try.ntmps65
    go_wp2_with fail
    go_ret
    have hown : (w.alloc (.cells #[.slice A l cap] 22)).ownsRow w.heap.size 22 1 (.slice (some ⟨w.heap.size, 0, none⟩) 1 1) 1 [.slice A l cap] :=
      ⟨rfl, .inr ⟨w.heap.size, 1, _, rfl, Nat.le_refl _, heap_alloc_new w _, by omega, by unfold maxLen; omega, rfl, rfl⟩⟩
    exact ⟨_, 1, [.slice A l cap], rfl, hown, Rows.one_ (H.out.1.below ((Below.refl _ _).alloc (Nat.le_refl _) _)), (fun v hv ad n c he => by simp only [List.mem_singleton] at hv; subst hv; injection he with he; exact H.out.2.2 ad he), (Below.refl _ _).alloc (Nat.le_refl _) _⟩
  | succ m ih =>
    intro pre l A cap w b lo hpl hlm hlc hcm h0 hb hlo hAlo hrow hpn
    have hI : Ints w A (pre.map Int.ofNat) := by
      obtain ⟨A', c', he, _, _, h, _⟩ := hrow
      injection he with he
      subst he
      exact h
    have IH := Lib.hid ih
    have hne : ((l : Int) == (n : Int)) = false := by simp; omega
    have hl4 : l < 4 := by omega
    have H := Lib.hid (And.intro hpl (And.intro h0 (And.intro hrow (And.intro hI (And.intro hpn (And.intro hlm hcm))))))
    clear hpl h0 hrow hI hpn ih hAlo
    go_enter Try.func65, Try.ntmps65
    go_wp2_with fail
    go_loopw [5, 17] (fun ov iv wr => ∃ (i : Nat) (A2 : Option Addr) (k2 : Nat) (vs : List Value), i ≤ n ∧ iv = .int .i64 i ∧ ov = .slice A2 (extTo n m pre i).length k2 ∧ wr.ownsRow w.heap.size 22 1 (.slice A2 (extTo n m pre i).length k2) (extTo n m pre i).length vs ∧ Rows wr b vs (zs (extTo n m pre i)) ∧ RowsLo lo vs ∧ Below w.heap.size w wr) (fun _ iv _ => n - (intOf iv).toNat)
    case atStart => exact ⟨0, none, 0, [], Nat.zero_le _, rfl, rfl, World.ownsRow_nil _ _ _ _, Rows.nil, (fun v hv => by cases hv), Below.refl _ _⟩
    case round =>
      obtain ⟨i, A2, k2, vs, hi, rfl, rfl, hown, hrows, hrl, hbl⟩ := hrel
      have HRL := Lib.hid hrl
      clear hrl
      obtain ⟨wo, rfl⟩ : ∃ wo : World, wo = wr := ⟨_, rfl⟩
      have hext := extTo_lenP n m pre i
      obtain ⟨q, hq⟩ : ∃ q, q = (extTo n m pre i).length := ⟨_, rfl⟩
      rw [← hq] at hown ⊢
      have hm4 : m ≤ 4 := by omega
      have hps := pow_small hn hm4
      have hq2 : q ≤ 4 * 256 := by
        rw [hq]
        exact Nat.le_trans hext (Nat.mul_le_mul (by omega) hps)
      have HR := Lib.hid (And.intro hown (And.intro hrows (And.intro hbl hq)))
      have hwsz := hbl.size
      clear hown hrows hbl hq hext hps
      by_cases hlt : i < n
      · go_wp2_with fail
        go_loop [7, 22] (fun mv jv => ∃ j : Nat, j ≤ l ∧ jv = .int .i64 j ∧ mv = .bool (has ((pre.map Int.ofNat).take j) (i : Int))) (fun _ jv => l - (intOf jv).toNat)
        case atStart => exact ⟨0, Nat.zero_le _, rfl, rfl⟩
        case round =>
          obtain ⟨j, hj, rfl, rfl⟩ := hrel
          by_cases hlj : j < l
          · obtain ⟨hpl, h0, hrow, hI, hpn, _, _⟩ := H.out
            obtain ⟨ad, rfl, _, hc⟩ := hI.some_ (by simp; omega)
            obtain ⟨x, hx⟩ : ∃ x, (pre.map Int.ofNat)[j]? = some x := ⟨_, List.getElem?_eq_getElem (by simp; omega)⟩
            have hcell := (HR.out.2.2.1.cell (lt_of_cell (hc j x hx))).trans (hc j x hx)
            have HT := Lib.hid (has_take_succ (y := (i : Int)) hx)
            clear hpl h0 hrow hI hpn hc hx
            cases hm : has ((pre.map Int.ofNat).take j) (i : Int)
            · have HM := Lib.hid hm
              clear hm
              by_cases he : x = (i : Int)
              · have hb : (x == (i : Int)) = true := by simp [he]
                have HE := Lib.hid hb
                clear he
                go_wp2_with fail
                go_round
                case rel => exact ⟨j + 1, by omega, by go_num, by rw [HT.out, HM.out, HE.out]; rfl⟩
                case measure => simp [intOf]; omega
              · have hb : (x == (i : Int)) = false := by simp [he]
                have HE := Lib.hid hb
                clear he
                go_wp2_with fail
                go_round
                case rel => exact ⟨j + 1, by omega, by go_num, by rw [HT.out, HM.out, HE.out]; rfl⟩
                case measure => simp [intOf]; omega
            · have HM := Lib.hid hm
              clear hm
              go_wp2_with fail
              go_round
              case rel => exact ⟨j + 1, by omega, by go_num, by rw [HT.out, HM.out]; rfl⟩
              case measure => simp [intOf]; omega
          · obtain rfl : j = l := by omega
            have HALL : Hid ((pre.map Int.ofNat).take j = pre.map Int.ofNat) := Lib.hid (List.take_of_length_le (by have := H.out.1; simp; omega))
            rw [HALL.out]
            by_cases hmem : i ∈ pre
            · have hm : has (pre.map Int.ofNat) (i : Int) = true := by rw [mem_nats]; simp [hmem]
              have HE : Hid (extTo n m pre (i + 1) = extTo n m pre i) := Lib.hid (by rw [extTo_succ, if_pos hmem, List.append_nil])
              rw [hm]
              clear hm hmem
              go_wp2_with fail
              go_roundw
              case rel => exact ⟨i + 1, A2, k2, vs, by omega, by go_num, by rw [HE.out, HR.out.2.2.2], by rw [HE.out, ← HR.out.2.2.2]; exact HR.out.1, by rw [HE.out]; exact HR.out.2.1, HRL.out, HR.out.2.2.1⟩
              case measure => simp [intOf]; omega
            · have hm : has (pre.map Int.ofNat) (i : Int) = false := by rw [mem_nats]; simp [hmem]
              have HE : Hid (extTo n m pre (i + 1) = extTo n m pre i ++ ext n m (pre ++ [i])) := Lib.hid (by rw [extTo_succ, if_neg hmem])
              rw [hm]
              have hlen2 := ext_lenP n m (pre ++ [i])
              have hps2 := pow_small hn hm4
              have hjc : (j : Int) ≤ (cap : Int) := by omega
              clear hm hmem
              have hA0 : A = none → j = 0 := fun h => (H.out.2.1 h).1
              go_wp2_with (at_builtin; refine freshN sty_int rfl _ _ rfl A j (nats pre) ?d1 ?d2 hA0 ?d3 ⟨wo.heap.size, 0, none⟩ 1 1 [.int .i64 (i : Int)] rfl ?d4 ?d5 rfl (by omega) (by omega) ?_)
              case d1 => have := H.out.1; simp [nats]; omega
              case d2 =>
                have h := (H.out.2.2.2.1.below HR.out.2.2.1).below ((Below.refl _ _).alloc (Nat.le_refl _) (.cells #[.int .i64 (i : Int)] 3))
                unfold Ints at h
                rwa [← nats_ints] at h
              case d3 =>
                intro hj0
                cases A with
                | none => exact absurd (hA0 rfl) hj0
                | some ad => exact ⟨ad, rfl⟩
              intro k3 w3 hown3 hbl3 hk31 hk32
              have hI3 : Ints w3 (some ⟨wo.heap.size + 1, 0, none⟩) ((pre ++ [i]).map Int.ofNat) := by
                unfold Ints
                rw [← nats_ints, nats_snoc]
                exact At.of_own hown3
              have hown3' : w3.ownsRow (wo.heap.size + 1) 3 1 (.slice (some ⟨wo.heap.size + 1, 0, none⟩) (j + 1) k3) (j + 1) (((pre ++ [i]).map Int.ofNat).map (Value.int .i64)) := by
                rw [← nats_ints, nats_snoc]
                exact hown3
              have hrow3 := Row1.of_own hown3' b
              have hblw3 : Below wo.heap.size wo w3 := ((Below.refl _ _).alloc (Nat.le_refl _) _).trans (hbl3.mono (by omega))
              have hw3 := hblw3.size
              have H3 := Lib.hid (And.intro hrow3 hblw3)
              clear hI3 hown3 hown3' hrow3 hbl3 hblw3
              go_wp2_with fail
              refine (IH.out (pre ++ [i]) (j + 1) _ k3 w3 b lo (by have := H.out.1; simp; omega) (by omega) hk31 hk32 (fun h => by cases h) (by omega) (by omega) (fun ad h => by injection h with h; subst h; show lo ≤ wo.heap.size + 1; omega) H3.out.1 (by
                intro x hx
                rcases List.mem_append.1 hx with hx | hx
                · exact H.out.2.2.2.2.1 x hx
                · simp at hx; omega)).mono ?_
              rintro e w4 ⟨A4, k4, vs4, rfl, hown4, hrows4, hrl4, hbl4⟩
              have HRL4 := Lib.hid hrl4
              clear hrl4
              obtain ⟨q4, hq4⟩ : ∃ q4, q4 = (ext n m (pre ++ [i])).length := ⟨_, rfl⟩
              rw [← hq4] at hown4 hlen2 ⊢
              have hbw4 : Below wo.heap.size wo w4 := H3.out.2.trans (hbl4.mono hw3)
              have hown2 := own_below HR.out.1 hbw4
              have hrows2 := HR.out.2.1.below hbw4
              have hnone : A4 = none → q4 = 0 ∧ k4 = 0 := by
                obtain ⟨A', c', he, _, _, h⟩ := own_form hown4
                injection he with e1 _ e3
                subst e1; subst e3
                exact h
              have hat4 : At w4 A4 vs4 := At.of_own hown4
              have hvl : vs4.length = q4 * 1 := hown4.1
              have hw4 := hbw4.size
              have H4 := Lib.hid (And.intro hown2 (And.intro hrows2 (And.intro hrows4 (And.intro hbw4 hq4))))
              have HV := Lib.hid (And.intro hnone (And.intro hat4 hvl))
              clear hown4 hrows4 hbl4 hbw4 hown2 hrows2 hnone hat4 hvl hq4
              go_wp2_with (at_builtin; refine appN sty_intss rfl _ _ rfl w.heap.size A2 q k2 vs rfl H4.out.1 A4 q4 k4 vs4 HV.out.1 HV.out.2.2 HV.out.2.1 H4.out.2.2.1.one rfl (by omega) (by omega) ?_)
              intro A5 k5 w5 hown5 hg5 hbl5 hk51 hk52
              have hrows5 : Rows w5 b (vs ++ vs4) (zs (extTo n m pre (i + 1))) := by
                rw [HE.out, zs_append]
                exact (H4.out.2.1.grown H4.out.1 hb hg5).append (H4.out.2.2.1.grown H4.out.1 hb hg5)
              have hlen5 : (extTo n m pre (i + 1)).length = q + q4 := by rw [HE.out, List.length_append, H4.out.2.2.2.2, HR.out.2.2.2]
              have H5 := Lib.hid (And.intro hown5 (And.intro hrows5 (And.intro ((HR.out.2.2.1.trans (H4.out.2.2.2.1.mono hwsz)).trans hbl5) hlen5)))
              clear hown5 hg5 hbl5 hrows5 hlen5
              go_wp2_with fail
              go_roundw
              case rel => exact ⟨i + 1, A5, k5, vs ++ vs4, by omega, by go_num, by rw [H5.out.2.2.2], by rw [H5.out.2.2.2]; exact H5.out.1, H5.out.2.1, (fun v hv => (List.mem_append.1 hv).elim (HRL.out v) (HRL4.out v)), H5.out.2.2.1⟩
              case measure => simp [intOf]; omega
      · obtain rfl : i = n := by omega
        go_wp2_with fail
        go_ret
        refine ⟨A2, k2, vs, ?_, ?_, ?_, HRL.out, HR.out.2.2.1⟩
        · rw [ext_eq, ← HR.out.2.2.2]; rfl
        · rw [ext_eq, ← HR.out.2.2.2]; exact HR.out.1
        · rw [ext_eq]; exact HR.out.2.1

/- Contract: Join of package corrodyref07. -/

set_option maxHeartbeats 800000 in
theorem rjoin_any (ad ac : Addr) (N cap n cap' : Nat) (c : List Int) (os : List Nat) (w : World) (hn : n ≤ 4) (hN : N = 2 ^ n) (hl : c.length = N) (hol : os.length = n)
    (hc : ∀ i x, c[i]? = some x → w.cell? (ac.add i) = some (.int .i64 x)) (ho : ∀ i x, os[i]? = some x → w.cell? (ad.add i) = some (.int .i64 (x : Nat)))
    (hos : ∀ x ∈ os, x < n) (hcb : ∀ x ∈ c, 0 ≤ x ∧ x ≤ 1000) :
    Calls Try.prog 33 #[.slice (some ac) N cap, .slice (some ad) n cap'] w fun e w' => e = .returned (.slice (some ⟨w.heap.size, 0, none⟩) n n) ∧ Blk w' w.heap.size 3 (arr (joinL c os)) ∧ Below w.heap.size w w' := by
  have hmk := make_ints n (by omega)
  have HN := Lib.hid hN
  have HL := Lib.hid hl
  have HOL := Lib.hid hol
  have HC := Lib.hid hc
  have HO := Lib.hid ho
  have HOS := Lib.hid hos
  have HCB := Lib.hid hcb
  clear hN hl hol hc ho hos hcb
  go_enter Try.func33, Try.ntmps33
  go_wp2
  go_loopw [6, 14] (fun s i wr => ∃ k set : Nat, k ≤ n ∧ i = .int .i64 k ∧ s = .int .i64 set ∧ set = (joinP c n (os.take k)).1 ∧ Blk wr w.heap.size 3 (arr (joinP c n (os.take k)).2) ∧ Below w.heap.size w wr) (fun _ i _ => n - (intOf i).toNat)
  case atStart => exact ⟨0, 0, Nat.zero_le _, rfl, rfl, rfl, Blk.new _ _ _ rfl, (Below.refl _ _).alloc (Nat.le_refl _) _⟩
  case round =>
    obtain ⟨k, set, h1, rfl, rfl, hset, hB, hb⟩ := hrel
    have HSET := Lib.hid hset
    have HB := Lib.hid hB
    have HBL := Lib.hid hb
    clear hset hB hb
    by_cases hlt : k < n
    · obtain ⟨x, hx⟩ : ∃ x, os[k]? = some x := ⟨_, List.getElem?_eq_getElem (by rw [HOL.out]; exact hlt)⟩
      have hxn : x < n := HOS.out x (List.mem_of_getElem? hx)
      have bd := joinP_bd c n (os.take k) (fun y hy => HOS.out y (List.mem_of_mem_take hy))
      rw [← HSET.out] at bd
      have hlt2 : set ||| 2 ^ x < 2 ^ n := or_pow_lt bd.1 hxn
      have hp : 2 ^ n ≤ 16 := by have := Nat.pow_le_pow_right (show 0 < 2 by omega) hn; simpa using this
      obtain ⟨s', hs'⟩ : ∃ s' : Nat, s' = set ||| 2 ^ x := ⟨_, rfl⟩
      have e1 := or_pow set x (by omega) (by omega)
      have e2 := or_pow' set x (by omega) (by omega)
      rw [← hs'] at e1 e2 hlt2
      obtain ⟨y1, hy1⟩ : ∃ y, c[s']? = some y := ⟨_, List.getElem?_eq_getElem (by rw [HL.out, HN.out]; exact hlt2)⟩
      obtain ⟨y0, hy0⟩ : ∃ y, c[set]? = some y := ⟨_, List.getElem?_eq_getElem (by rw [HL.out, HN.out]; exact bd.1)⟩
      have b1 := HCB.out y1 (List.mem_of_getElem? hy1)
      have b0 := HCB.out y0 (List.mem_of_getElem? hy0)
      have c1 := (HBL.out.cell (lt_of_cell (HC.out _ _ hy1))).trans (HC.out _ _ hy1)
      have c0 := (HBL.out.cell (lt_of_cell (HC.out _ _ hy0))).trans (HC.out _ _ hy0)
      have c2 := (HBL.out.cell (lt_of_cell (HO.out _ _ hx))).trans (HO.out _ _ hx)
      have hlN : s' < N := by rw [HN.out]; exact hlt2
      have hl0 : set < N := by rw [HN.out]; exact bd.1
      obtain ⟨z, hz⟩ : ∃ z, (joinP c n (os.take k)).2[x]? = some z := ⟨_, List.getElem?_eq_getElem (by rw [bd.2]; exact hxn)⟩
      have c3 : wr.cell? ⟨w.heap.size, x, none⟩ = some (.int .i64 z) := by rw [HB.out.cell, arr_get, hz]; rfl
      have f3 : wr.frozen? ⟨w.heap.size, x, none⟩ = false := HB.out.frozen x
      have HNEW : Hid (joinP c n (os.take (k + 1)) = (s', (joinP c n (os.take k)).2.set x (y1 - y0))) := Lib.hid (by
        rw [joinP_succ c n os k x hx, joinStep, ← HSET.out, ← hs', List.getD_eq_getElem?_getD, List.getD_eq_getElem?_getD, hy1, hy0]; rfl)
      clear hx hs' hy1 hy0 hz bd hlt2 hp
      go_wp2
      go_region
      go_wp2
      go_roundw
      case rel =>
        refine ⟨k + 1, s', by omega, by go_num, rfl, by rw [HNEW.out], ?_, HBL.out.drew.setCell (Nat.le_refl _) _⟩
        rw [HNEW.out, ← arr_set]
        exact Blk.set_ (w := wr.drew) HB.out x _
      case measure => simp [intOf]; omega
    · go_wp2
      go_ret
      refine ⟨rfl, ?_, HBL.out⟩
      have h := HB.out
      rwa [List.take_of_length_le (by rw [HOL.out]; omega), show joinP c n os = os.foldl (joinStep c) (0, List.replicate os.length 0) from by rw [joinP, HOL.out]] at h
end Go.Proofs.Ytbidboagaoifaaa
