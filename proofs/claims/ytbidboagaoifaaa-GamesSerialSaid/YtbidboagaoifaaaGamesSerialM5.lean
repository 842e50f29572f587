/- Laws and contracts that the proof of GamesSerial uses, part 5. -/
import Derived.Test.YtbidboagaoifaaaGamesSerialM4
import Derived.Deep.RegionHeld3
import Derived.Deep.RegionLaw
import Derived.Test.YtbidboagaoifaaaGamesSerialM3
import Derived.Test.YtbidboagaoifaaaGamesSerialM2
import Derived.Test.YtbidboagaoifaaaGamesSerialM1
namespace Go.Proofs.Ytbidboagaoifaaa
open Go.RowKit

/- Contract: the function that Refute of package games calls for each choice of sets: the walk. -/

/-- What the function leaves. -/
def Ref1Post (c : List Int) (n Bf : Nat) (sets : List Nat) (w : World) (e : Ending) (w' : World) : Prop :=
  Kept w.heap.size [Bf] w w' ∧ ((candR c n sets = none ∧ e = .returned (.bool true) ∧ Blk w' Bf 58 #[.slice none 0 0]) ∨
    ∃ ts A' k c', candR c n sets = some ts ∧ e = .returned (.bool false) ∧ Blk w' Bf 58 #[.slice A' k c'] ∧ ts.length = k ∧ A'.isSome ∧ Tps w' A' ts ∧ k ≤ c' ∧ c' ≤ 9223372036854775807)

/-- Between two rows. -/
structure OutR (w0 w : World) (g n i : Nat) (sets : List Nat) (vs : List Value) : Prop where
  len : vs.length = n
  blk : Blk w g 22 vs.toArray
  done : ORows w w0.heap.size (vs.take i) ((List.range i).map (colL sets))
  rest : ∀ a, i ≤ a → a < n → vs[a]? = some (.slice none 0 0)
  below : Below w0.heap.size w0 w
theorem OutR.start {w0 w : World} {g n i : Nat} {sets : List Nat} {vs : List Value} (h : OutR w0 w g n i sets vs) (hi : i < n) : MkR w0 w g n i w.heap.size sets vs (.slice none 0 0) :=
  ⟨h.len, h.blk, h.rest i (Nat.le_refl _) hi, h.done, fun a h1 h2 => h.rest a (by omega) h2, h.done.lt, h.blk.lt, h.below, Nat.le_refl _⟩
theorem MkR.fin {w0 w : World} {g n i b : Nat} {sets : List Nat} {vs : List Value} {D : Option Addr} {c : Nat} (h : MkR w0 w g n i b sets vs (.slice D (sets.length + 1) c)) (hw : w0.heap.size ≤ b) (hown : w.ownsRow b 3 1 (.slice D (sets.length + 1) c) (sets.length + 1) ((colL sets i).map (Value.int .i64))) :
    OutR w0 w g n (i + 1) sets vs := by
  refine ⟨h.len, h.blk, ?_, fun a h1 h2 => h.rest a (by omega) h2, h.below⟩
  have e : vs.take (i + 1) = vs.take i ++ [.slice D (colL sets i).length c] := by rw [List.take_add_one, h.at_, colL_length]; rfl
  have e2 : (List.range (i + 1)).map (colL sets) = (List.range i).map (colL sets) ++ [colL sets i] := by rw [List.range_succ, List.map_append]; rfl
  rw [e, e2]
  exact h.done.snoc hw (by rw [colL_length]; exact hown) h.lt

theorem OutR.all {w0 w : World} {g n : Nat} {sets : List Nat} {vs : List Value} (h : OutR w0 w g n n sets vs) (hn : n ≤ 4) (hsl : sets.length = n) (hg : w0.heap.size ≤ g) : ∃ R C, Mtx w g n R C (entry (sysR n sets)) ∧ ∀ i, i < n → w0.heap.size ≤ R i := by
  have hd := h.done
  rw [List.take_of_length_le (by rw [h.len]; exact Nat.le_refl _)] at hd
  have ho : w.ownsRow w0.heap.size 22 1 (.slice (some ⟨g, 0, none⟩) n n) n vs :=
    ⟨by rw [h.len, Nat.mul_one], .inr ⟨g, n, vs.toArray, rfl, hg, h.blk, Nat.le_refl _, by unfold maxLen; omega, by simp [h.len], by rw [Nat.mul_one, List.take_of_length_le (by simp [h.len])]⟩⟩
  obtain ⟨R, C, hM, _, hR⟩ := mtx_of ho hd (by simp) (fun r hr => by
    obtain ⟨i, _, rfl⟩ := List.mem_map.1 hr
    rw [colL_length, hsl])
  exact ⟨R, C, hM, hR⟩
theorem tsTo_mem {h : Nat → Nat → Int} {l : Int} {n : Nat} {sets : List Nat} : ∀ {k : Nat} {t : Pt}, t ∈ tsTo h l n sets k → ∃ i, i < k ∧ h i n ≠ 0 ∧ t = (((sets.getD i 0 : Nat) : Int), (solQ (h i n) l).num, ((solQ (h i n) l).den : Int)) := by
  intro k
  induction k with
  | zero => intro t ht; cases ht
  | succ k ih =>
    intro t ht
    simp only [tsTo, List.mem_append] at ht
    rcases ht with ht | ht
    · obtain ⟨i, h1, h2⟩ := ih ht
      exact ⟨i, by omega, h2⟩
    · by_cases h0 : h k n = 0
      · rw [if_pos h0] at ht; cases ht
      · rw [if_neg h0, List.mem_singleton] at ht
        exact ⟨k, by omega, h0, ht⟩
theorem tsTo_len (h : Nat → Nat → Int) (l : Int) (n : Nat) (sets : List Nat) (k : Nat) : (tsTo h l n sets k).length ≤ k := by
  induction k with
  | zero => exact Nat.le_refl _
  | succ k ih =>
    simp only [tsTo, List.length_append]
    split <;> simp <;> omega
theorem solQ_bd {x l : Int} (hx : -100000000 ≤ x ∧ x ≤ 100000000) (hl0 : l ≠ 0) (hl : -100000000 ≤ l ∧ l ≤ 100000000) : -100000000 ≤ (solQ x l).num ∧ (solQ x l).num ≤ 100000000 ∧ 0 < ((solQ x l).den : Int) ∧ ((solQ x l).den : Int) ≤ 100000000 := by
  have hm : 0 < max l (-l) ∧ max l (-l) ≤ 100000000 := by omega
  have hx2 : -100000000 ≤ (if l < 0 then -x else x) ∧ (if l < 0 then -x else x) ≤ 100000000 := by split <;> omega
  have h1 := divInt_bd hm.1 hx2.1 hx2.2
  have h2 := divInt_den_le (a := if l < 0 then -x else x) hm.1
  have h3 := den_pos (solQ x l)
  unfold solQ at h3 ⊢
  exact ⟨h1.1, h1.2, h3, by omega⟩
theorem crB_nil {c : List Int} (hn : 1 ≤ plr c) : crB c [] = false := by
  unfold crB
  split
  · unfold refI onesI
    have : (List.range (plr c)).all (fun i => decide (sI [] i ([] : List Pt).length = 27720)) = false := by
      rw [List.all_eq_false]
      exact ⟨0, List.mem_range.2 hn, by simp [sI]⟩
    rw [this]
    simp
  · rfl

set_option maxRecDepth 100000 in
set_option maxHeartbeats 3200000 in
theorem refute1_any (A0 : Option Addr) (N cap0 n : Nat) (c : List Int) (Bn Bc Bf : Nat) (A : Option Addr) (cs : Nat) (sets : List Nat) (w : World)
    (hc : Ints w A0 c) (hl : c.length = N) (hv : valC c = true) (hn : plr c = n) (hsl : sets.length = n) (hsb : ∀ s ∈ sets, s < N) (hA : Ints w A (sets.map Int.ofNat))
    (bn : Blk w Bn 3 #[.int .i64 n]) (bc : Blk w Bc 22 #[.slice A0 N cap0]) (bf : Blk w Bf 58 #[.slice none 0 0]) :
    Calls Try.prog 78 #[.slice A n cs, .pointer (some ⟨Bn, 0, none⟩), .pointer (some ⟨Bc, 0, none⟩), .pointer (some ⟨Bf, 0, none⟩)] w (Ref1Post c n Bf sets w) := by
  have qT : ∀ (w : World) (a : Option Addr) (n c n' c' : Nat), (binOp .eql 58 (.slice a n c) (.slice none n' c')).run Try.prog w = .ok (.bool a.isNone) w := fun w a n c n' c' => Lib.run_eql_slice_nil w _ _ a n c n' c' Try.underlying58
  have hnp := plr_np hv
  rw [hl, hn] at hnp
  have hn4 : 1 ≤ n ∧ n ≤ 4 := by omega
  have hN16 : N ≤ 16 := by omega
  have hmk := make_sys n (by omega)
  have o1 := bn.at1.1
  have hb0 : Below w.heap.size w (w.alloc (.cells (Array.replicate n (Value.slice none 0 0)) 22)) := (Below.refl _ _).alloc (Nat.le_refl _) _
  have hB0 : Blk (w.alloc (.cells (Array.replicate n (Value.slice none 0 0)) 22)) w.heap.size 22 (Array.replicate n (Value.slice none 0 0)) := Blk.new _ _ _ rfl
  have hst : OutR w (w.alloc (.cells (Array.replicate n (Value.slice none 0 0)) 22)) w.heap.size n 0 sets (List.replicate n (Value.slice none 0 0)) :=
    ⟨by simp, by simpa using hB0, ORows.nil _ _, fun a _ h => by simp [h], hb0⟩
  have H := Lib.hid (And.intro hc (And.intro hl (And.intro hv (And.intro hn (And.intro hsl (And.intro hsb (And.intro hA (And.intro bn (And.intro bc (And.intro bf (And.intro hnp hst)))))))))))
  have o2 : (w.alloc (.cells (Array.replicate n (Value.slice none 0 0)) 22)).cell? ⟨Bn, 0, none⟩ = some (.int .i64 n) := (hb0.cell (lt_of_cell o1)).trans o1
  clear hc hl hv hn hsl hsb hA bn bc bf hnp hst hb0 hB0
  go_enter Try.func78, Try.ntmps78
  go_wp2_with fail
  go_loopw [20] (fun iv wr => ∃ (i : Nat) (vs : List Value), i ≤ n ∧ iv = .int .i64 i ∧ OutR w wr w.heap.size n i sets vs) (fun iv _ => n - (intOf iv).toNat)
  case atStart => exact ⟨0, _, Nat.zero_le _, rfl, H.out.2.2.2.2.2.2.2.2.2.2.2⟩
  case round =>
    obtain ⟨i, vs, hi, rfl, hO⟩ := hrel
    have HO := Lib.hid hO
    have hwr := hO.below.size
    clear hO
    by_cases hlt : i < n
    · have l1 : (i : Int) < (n : Int) := by omega
      obtain ⟨b, hb⟩ : ∃ b, b = wr.heap.size := ⟨_, rfl⟩
      have hS : MkR w wr w.heap.size n i b sets vs (.slice none 0 0) := by rw [hb]; exact HO.out.start hlt
      have HS := Lib.hid hS
      have hwb : w.heap.size ≤ b := by omega
      have HB := Lib.hid hb
      clear hS hb
      go_wp2_with fail
      go_loopw [25] (fun qv wx => ∃ (q : Nat) (vs : List Value) (D : Option Addr) (dc : Nat), q ≤ n ∧ qv = .int .i64 q ∧ MkR w wx w.heap.size n i b sets vs (.slice D q dc) ∧ wx.ownsRow b 3 1 (.slice D q dc) q (((sets.take q).map (fun s => bitI s i)).map (Value.int .i64))) (fun qv _ => n - (intOf qv).toNat)
      case atStart => exact ⟨0, vs, none, 0, Nat.zero_le _, rfl, HS.out, World.ownsRow_nil _ _ _ _⟩
      case round =>
        obtain ⟨q, vs2, D, dc, hq, rfl, hM, hown⟩ := hrel
        obtain ⟨wo, rfl⟩ : ∃ wo : World, wo = wr := ⟨_, rfl⟩
        have HM := Lib.hid (And.intro hM hown)
        have hcell : wo.cell? ⟨w.heap.size, i, none⟩ = some (.slice D q dc) := by rw [hM.blk.cell, List.getElem?_toArray]; exact hM.at_
        have hfroz : wo.frozen? ⟨w.heap.size, i, none⟩ = false := hM.blk.frozen i
        have hbo := hM.wb
        have hgb := hM.gb
        have hbw := hM.below
        have HBW := Lib.hid hbw
        clear hM hown hbw
        by_cases hqn : q < n
        · obtain ⟨s, hs⟩ : ∃ s, sets[q]? = some s := ⟨_, List.getElem?_eq_getElem (by have := H.out.2.2.2.2.1; omega)⟩
          have hsN := H.out.2.2.2.2.2.1 s (List.mem_of_getElem? hs)
          obtain ⟨ad, rfl, hcs⟩ := H.out.2.2.2.2.2.2.1 q (.int .i64 (s : Int)) (by rw [List.map_map, List.getElem?_map, hs]; rfl)
          have hcs' := (HBW.out.cell (lt_of_cell hcs)).trans hcs
          have l2 : (q : Int) < (n : Int) := by omega
          have eb : bits .and .i64 ((s : Int) / 2 ^ i) 1 = bitI s i := and_shr s i (by omega)
          have hnew : ((sets.take (q + 1)).map (fun s => bitI s i)).map (Value.int .i64) = ((sets.take q).map (fun s => bitI s i)).map (Value.int .i64) ++ [.int .i64 (bitI s i)] := by
            rw [List.take_add_one, hs]; simp
          obtain ⟨bt, hbt⟩ : ∃ bt, bt = bitI s i := ⟨_, rfl⟩
          rw [← hbt] at eb hnew
          have HNEW := Lib.hid hnew
          have hownd : wo.drew.ownsRow b 3 1 (.slice D q dc) q (((sets.take q).map (fun s => bitI s i)).map (Value.int .i64)) := HM.out.2.drew
          have HOD := Lib.hid hownd
          clear hs hcs hbt hnew hownd
          have hcelld : ∀ w4, Below b wo.drew w4 → w4.cell? ⟨w.heap.size, i, none⟩ = some (.slice D q dc) := fun w4 hb => (hb.cell (p := ⟨w.heap.size, i, none⟩) (by show w.heap.size < b; exact hgb)).trans hcell
          have hcA : ∀ o, (wo.alloc o).cell? ⟨w.heap.size, i, none⟩ = some (.slice D q dc) := fun o => (World.cell?_alloc_lt _ _ _ (by show w.heap.size < wo.heap.size; omega)).trans hcell
          have HCD := Lib.hid hcelld
          clear hcelld
          go_wp2_with fail
          go_region_law ((refine step_app1 (w := wo.drew) sty_int (by rfl) (.tmp 34) (.tmp 39) (by rfl) b D q dc _ #[.int .i64 bt] (by rfl) (by simp [Value.oneCell']) (by rfl) HOD.out (by rfl) (by omega) hbo ?_; intro A4 k4 w4 hown4 hg4 hbl4 hk41 hk42; have hc4 := HCD.out _ hbl4; have hf4 : w4.frozen? ⟨w.heap.size, i, none⟩ = false := (HM.out.1.blk.below ((below_drewN (Below.refl b wo) 1).trans hbl4) hgb).frozen i))
          all_goals
            have hfin : MkR w (w4.setCell ⟨w.heap.size, i, none⟩ (.slice A4 (q + 1) k4)) w.heap.size n i b sets (vs2.set i (.slice A4 (q + 1) k4)) (.slice A4 (q + 1) k4) ∧ (w4.setCell ⟨w.heap.size, i, none⟩ (.slice A4 (q + 1) k4)).ownsRow b 3 1 (.slice A4 (q + 1) k4) (q + 1) (((sets.take (q + 1)).map (fun s => bitI s i)).map (Value.int .i64)) := by
              have hb4 : Below b wo w4 := (below_drewN (Below.refl b wo) 1).trans hbl4
              refine ⟨HM.out.1.step hlt (Nat.le_refl _) hb4, ?_⟩
              rw [HNEW.out]
              exact own_setC hown4 (HM.out.1.blk.below hb4 hgb) i _
            have HF := Lib.hid hfin
            clear hfin hown4 hg4 hbl4 hc4 hf4
            go_wp2_with fail
            go_roundw
            case rel => exact ⟨q + 1, _, A4, k4, by omega, by go_num, HF.out⟩
            case measure => simp [intOf]; omega
        · obtain rfl : q = n := by omega
          have hT : sets.take q = sets := List.take_of_length_le (by rw [H.out.2.2.2.2.1]; exact Nat.le_refl _)
          rw [hT] at HM
          have HCD : Hid (∀ w4, Below b wo w4 → w4.cell? ⟨w.heap.size, i, none⟩ = some (.slice D q dc)) := Lib.hid fun w4 hb => (hb.cell (p := ⟨w.heap.size, i, none⟩) (by show w.heap.size < b; exact hgb)).trans hcell
          clear hT
          go_wp2_with (at_builtin; refine app1 sty_int rfl _ _ rfl b D q dc _ #[.int .i64 1] rfl (by simp [Value.oneCell']) rfl HM.out.2 rfl (by omega) hbo ?_)
          intro A4 k4 w4 hown4 _ hbl4 hk41 hk42
          have hc4 := HCD.out _ hbl4
          have hf4 : w4.frozen? ⟨w.heap.size, i, none⟩ = false := (HM.out.1.blk.below hbl4 hgb).frozen i
          have hfin : OutR w (w4.setCell ⟨w.heap.size, i, none⟩ (.slice A4 (q + 1) k4)) w.heap.size q (i + 1) sets (vs2.set i (.slice A4 (q + 1) k4)) := by
            have hst := HM.out.1.step (D' := .slice A4 (q + 1) k4) hlt (Nat.le_refl _) hbl4
            have hl := H.out.2.2.2.2.1
            have ho := own_setC hown4 (HM.out.1.blk.below hbl4 hgb) i (.slice A4 (q + 1) k4)
            have e : (colL sets i).map (Value.int .i64) = (sets.map (fun s => bitI s i)).map (Value.int .i64) ++ [.int .i64 1] := by simp [colL]
            rw [← hl] at hst ho ⊢
            refine hst.fin hwb ?_
            rw [e, List.map_map]
            exact ho
          have HF := Lib.hid hfin
          clear hfin hown4 hbl4
          go_wp2_with fail
          go_roundw
          case rel => exact ⟨i + 1, _, by omega, by go_num, HF.out⟩
          case measure => simp [intOf]; omega
    · obtain rfl : i = n := by omega
      obtain ⟨R, C, hM, hRb⟩ := HO.out.all hn4.2 H.out.2.2.2.2.1 (Nat.le_refl _)
      have hSM := safe_of hn4.2 (sysR_bd i sets H.out.2.2.2.2.1)
      have HM := Lib.hid (And.intro hM (And.intro hRb hSM))
      clear hM hRb hSM
      go_wp2_with fail
      refine (solve_any w.heap.size i i R C (entry (sysR i sets)) w.heap.size wr hn4 HM.out.1 (Nat.le_refl _) HM.out.2.1 HM.out.2.2 hwr).mono ?_
      rintro e w5 (⟨hno, rfl, hb5⟩ | ⟨h, l, D, dc, hso, rfl, hown5, hb5⟩)
      · have HF : Hid (candR c i sets = none ∧ Below w.heap.size w w5) := Lib.hid ⟨by unfold candR; rw [hno], HO.out.below.trans hb5⟩
        clear hno hb5
        go_wp2_with fail
        go_ret
        exact ⟨Kept.of_below HF.out.2 _, .inl ⟨HF.out.1, rfl, H.out.2.2.2.2.2.2.2.2.2.1.below HF.out.2 H.out.2.2.2.2.2.2.2.2.2.1.lt⟩⟩
      · have hsf := HM.out.2.2 i h l (Nat.le_refl _) hso
        have hl0 := hsf.1
        have hl1 := hsf.2.1
        have hl2 := hsf.2.2.1
        have hAt5 : At w5 D ((List.range i).map fun i' => .int .i64 (h i' i)) := At.of_own hown5
        have H5 := Lib.hid (And.intro hso (And.intro hAt5 (And.intro (HO.out.below.trans hb5) hsf)))
        have hw5 := (HO.out.below.trans hb5).size
        have dl0 : (l == 0) = false := by rw [beq_eq_false_iff_ne]; exact hl0
        clear hso hAt5 hb5 hsf hown5
        go_wp2_with fail
        go_loopw [12, 62] (fun ov iv wr => ∃ (k q : Nat) (E : Option Addr) (c2 : Nat), k ≤ i ∧ iv = .int .i64 k ∧ ov = .slice E q c2 ∧ q = (tsTo h l i sets k).length ∧ wr.ownsRow w5.heap.size 80 3 (.slice E q c2) q (tcells (tsTo h l i sets k)) ∧ Below w5.heap.size w5 wr) (fun _ iv _ => i - (intOf iv).toNat)
        case atStart => exact ⟨0, 0, none, 0, Nat.zero_le _, rfl, rfl, rfl, by simpa [tcells, tsTo] using World.ownsRow_nil _ _ _ _, Below.refl _ _⟩
        case round =>
          obtain ⟨k, q, E, c2, hk, rfl, rfl, hq, hown, hbl⟩ := hrel
          obtain ⟨wp, rfl⟩ : ∃ wp : World, wp = wr := ⟨_, rfl⟩
          have hqk : q ≤ k := by rw [hq]; exact tsTo_len _ _ _ _ _
          have HP := Lib.hid (And.intro hown (And.intro hbl hq))
          have hwp := hbl.size
          have hbw : Below w.heap.size w wp := H5.out.2.2.1.trans (hbl.mono hw5)
          have HBW := Lib.hid hbw
          clear hown hbl hq hbw
          by_cases hki : k < i
          · obtain ⟨s, hs⟩ : ∃ s, sets[k]? = some s := ⟨_, List.getElem?_eq_getElem (by have := H.out.2.2.2.2.1; omega)⟩
            obtain ⟨ad, rfl, hcs⟩ := H.out.2.2.2.2.2.2.1 k (.int .i64 (s : Int)) (by rw [List.map_map, List.getElem?_map, hs]; rfl)
            have hcs' := (HBW.out.cell (lt_of_cell hcs)).trans hcs
            obtain ⟨dd, rfl, hcd⟩ := H5.out.2.1 k (.int .i64 (h k i)) (by simp [hki])
            have hcd' := (HP.out.2.1.cell (lt_of_cell hcd)).trans hcd
            have hxb := H5.out.2.2.2.2.2.2 k i hki (Nat.le_refl _)
            have hsg : sets.getD k 0 = s := by rw [List.getD_eq_getElem?_getD, hs]; rfl
            have l3 : (k : Int) < (i : Int) := by omega
            have hts : tsTo h l i sets (k + 1) = tsTo h l i sets k ++ if h k i = 0 then [] else [((s : Int), (solQ (h k i) l).num, ((solQ (h k i) l).den : Int))] := by rw [tsTo, hsg]
            obtain ⟨x, hx⟩ : ∃ x, x = h k i := ⟨_, rfl⟩
            rw [← hx] at hcd' hxb hts
            have HTS := Lib.hid hts
            clear hcs hcd hs hsg hts hx
            by_cases hx0 : x = 0
            · have d1 : (x != 0) = false := by simp [hx0]
              have HZ : Hid (tsTo h l i sets (k + 1) = tsTo h l i sets k) := Lib.hid (by rw [HTS.out, if_pos hx0, List.append_nil])
              clear hx0
              go_wp2_with fail
              go_roundw
              case rel => exact ⟨k + 1, q, E, c2, by omega, by go_num, rfl, by rw [HZ.out]; exact HP.out.2.2, by rw [HZ.out]; exact HP.out.1, HP.out.2.1⟩
              case measure => simp [intOf]; omega
            · have d1 : (x != 0) = true := by simp [hx0]
              have HZ : Hid (∀ y, y = solQ x l → tcells (tsTo h l i sets (k + 1)) = tcells (tsTo h l i sets k) ++ [.int .i64 (s : Int), .int .i64 y.num, .int .i64 (y.den : Int)] ∧ (tsTo h l i sets (k + 1)).length = (tsTo h l i sets k).length + 1) := Lib.hid (by
                rintro y rfl
                rw [HTS.out, if_neg hx0]
                exact ⟨tcells_snoc _ _, by simp⟩)
              clear hx0
              go_wp2_with fail
              refine (positive_any x l wp hxb hl0 ⟨hl1, hl2⟩).mono ?_
              rintro e w6 ⟨rfl, hb6⟩
              obtain ⟨y, hy⟩ : ∃ y, y = solQ x l := ⟨_, rfl⟩
              rw [← hy]
              have HY := Lib.hid (HZ.out y hy)
              have H6 := Lib.hid (And.intro (own_below HP.out.1 hb6) (HP.out.2.1.trans (hb6.mono hwp)))
              have hw6 : w5.heap.size ≤ w6.heap.size := by have := hb6.size; omega
              clear hb6 hy
              unfold fr
              go_wp2_with (at_builtin; refine app1 sty_gpart rfl _ _ rfl w5.heap.size E q c2 _ #[.int .i64 (s : Int), .int .i64 y.num, .int .i64 (y.den : Int)] rfl (by simp [Value.oneCell']) rfl H6.out.1 rfl (by omega) hw6 ?_)
              intro A4 k4 w7 hown7 _ hbl7 hk71 hk72
              have H7 : Hid (w7.ownsRow w5.heap.size 80 3 (.slice A4 (q + 1) k4) (q + 1) (tcells (tsTo h l i sets (k + 1))) ∧ Below w5.heap.size w5 w7) := Lib.hid ⟨by rw [HY.out.1]; exact hown7, H6.out.2.trans hbl7⟩
              clear hown7 hbl7
              go_wp2_with fail
              go_roundw
              case rel => exact ⟨k + 1, q + 1, A4, k4, by omega, by go_num, rfl, by rw [HY.out.2, ← HP.out.2.2], H7.out.1, H7.out.2⟩
              case measure => simp [intOf]; omega
          · obtain rfl : k = i := by omega
            have hT : Tps wp E (tsTo h l k sets k) := At.of_own HP.out.1
            obtain ⟨hc21, hc22⟩ : q ≤ c2 ∧ c2 ≤ 9223372036854775807 := by
              obtain ⟨_, _, he, h1, h2, _⟩ := own_form HP.out.1
              injection he with _ _ he
              subst he
              exact ⟨h1, h2⟩
            have hEs : 0 < q → ∃ dd, E = some dd ∧ w5.heap.size ≤ dd.block := by
              intro hq0
              rcases HP.out.1.2 with ⟨_, h0⟩ | ⟨g', _, _, hv', hb', _⟩
              · omega
              · injection hv' with hv'
                exact ⟨_, hv', hb'⟩
            have p1 := ((H.out.2.2.2.2.2.2.2.2.1.below HBW.out H.out.2.2.2.2.2.2.2.2.1.lt).at1).1
            have hrng : ∀ t ∈ tsTo h l k sets k, (-9223372036854775808 ≤ t.1 ∧ t.1 ≤ 9223372036854775807) ∧ (-9223372036854775808 ≤ t.2.1 ∧ t.2.1 ≤ 9223372036854775807) ∧ -9223372036854775808 ≤ t.2.2 ∧ t.2.2 ≤ 9223372036854775807 := by
              intro t ht
              obtain ⟨i', hi', _, rfl⟩ := tsTo_mem ht
              have hb := solQ_bd (H5.out.2.2.2.2.2.2 i' k hi' (Nat.le_refl _)) hl0 ⟨hl1, hl2⟩
              have hs16 : sets.getD i' 0 < 16 := by
                obtain ⟨s', hs'⟩ : ∃ s', sets[i']? = some s' := ⟨_, List.getElem?_eq_getElem (by have := H.out.2.2.2.2.1; omega)⟩
                have h1 := H.out.2.2.2.2.2.1 s' (List.mem_of_getElem? hs')
                rw [List.getD_eq_getElem?_getD, hs']
                show s' < 16
                omega
              refine ⟨⟨?_, ?_⟩, ⟨?_, ?_⟩, ?_, ?_⟩ <;> simp only <;> omega
            have HFR := Lib.hid (And.intro hT (And.intro hrng (And.intro hEs (H.out.1.below HBW.out))))
            clear hT hrng hEs
            go_wp2_with fail
            refine (checkrefute_any A0 N cap0 E q c2 c (tsTo h l k sets k) wp H.out.2.1 (by omega) HP.out.2.2.symm (by omega) HFR.out.2.2.2 HFR.out.1 HFR.out.2.1).mono ?_
            rintro e w8 ⟨rfl, hb8⟩
            obtain ⟨ok, hok⟩ : ∃ ok, ok = crB c (tsTo h l k sets k) := ⟨_, rfl⟩
            rw [← hok]
            have hbw8 : Below w.heap.size w w8 := HBW.out.trans (hb8.mono HBW.out.size)
            have hbf8 := H.out.2.2.2.2.2.2.2.2.2.1.below hbw8 H.out.2.2.2.2.2.2.2.2.2.1.lt
            obtain ⟨f1, f2⟩ := hbf8.at1
            have H8 := Lib.hid (And.intro hok (And.intro hbw8 (And.intro hbf8 (HFR.out.1.below hb8))))
            clear hok hbw8 hbf8 hb8
            cases ok
            · have HF : Hid (candR c k sets = none) := Lib.hid (by unfold candR; rw [H5.out.1]; simp only; rw [← H8.out.1]; rfl)
              go_wp2_with fail
              go_ret
              exact ⟨Kept.of_below H8.out.2.1 _, .inl ⟨HF.out, rfl, H8.out.2.2.1⟩⟩
            · have HF : Hid (candR c k sets = some (tsTo h l k sets k)) := Lib.hid (by unfold candR; rw [H5.out.1]; simp only; rw [← H8.out.1]; rfl)
              have hq0 : 0 < q := by
                rcases Nat.eq_zero_or_pos q with h0 | h0
                · have h1 := H8.out.1
                  have h2 : tsTo h l k sets k = [] := List.eq_nil_of_length_eq_zero (by rw [← HP.out.2.2]; exact h0)
                  rw [h2, crB_nil (by rw [H.out.2.2.2.1]; exact hn4.1)] at h1
                  cases h1
                · exact h0
              obtain ⟨dd2, rfl, hdd2⟩ := HFR.out.2.2.1 hq0
              go_wp2_with fail
              go_ret
              refine ⟨(Kept.of_below H8.out.2.1 _).setCell (.inl (by simp)) _, .inr ⟨tsTo h l k sets k, some dd2, q, c2, HF.out, rfl, H8.out.2.2.1.set_ 0 _, HP.out.2.2.symm, rfl, ?_, hc21, hc22⟩⟩
              refine at_far H8.out.2.2.2 (fun ad' had' => ?_) _
              injection had' with had'
              subst had'
              have h2 := H.out.2.2.2.2.2.2.2.2.2.1.lt
              show dd2.block ≠ Bf
              omega

/- Contract: Refute of package games. -/

/-- What Refute finds. -/
def refF (c : List Int) : Option (List Pt) := (cmb c.length (plr c)).findSome? (candR c (plr c))

/-- What Refute leaves. -/
def RefutePost (c : List Int) (w : World) (e : Ending) (w' : World) : Prop :=
  Below w.heap.size w w' ∧ ((valC c = false ∧ e = .returned (.tuple #[.slice none 0 0, .int .i64 2])) ∨ (valC c = true ∧ (coreF c).isSome = true ∧ e = .returned (.tuple #[.slice none 0 0, .int .i64 4])) ∨
    (valC c = true ∧ coreF c = none ∧ refF c = none ∧ e = .returned (.tuple #[.slice none 0 0, .int .i64 0])) ∨
    (valC c = true ∧ coreF c = none ∧ ∃ ts A' k c', refF c = some ts ∧ e = .returned (.tuple #[.slice A' k c', .int .i64 0]) ∧ ts.length = k ∧ Tps w' A' ts ∧ k ≤ c' ∧ c' ≤ 9223372036854775807))

/-- What holds between the calls of the function. -/
structure RefI (c : List Int) (A0 : Option Addr) (N cap0 n Bn Bc Bf : Nat) (t : Nat) (w : World) : Prop where
  bn : Blk w Bn 3 #[.int .i64 n]
  bc : Blk w Bc 22 #[.slice A0 N cap0]
  bf : Blk w Bf 58 #[.slice none 0 0]
  hc : Ints w A0 c
  lt : ∀ ad, A0 = some ad → ad.block < Bc
  no : ∀ s, s < t → ∀ z, (cmb N n)[s]? = some z → candR c n z = none
def RefD (c : List Int) (Bf : Nat) (w : World) : Prop := ∃ ts A' k c', refF c = some ts ∧ Blk w Bf 58 #[.slice A' k c'] ∧ ts.length = k ∧ Tps w A' ts ∧ k ≤ c' ∧ c' ≤ 9223372036854775807

theorem entF_refute1 : EntF 78 := entF_of Try.func78 (by kernel_rfl) (by kernel_rfl)

set_option maxRecDepth 100000 in
set_option maxHeartbeats 3200000 in
theorem refute_any (A0 : Option Addr) (N cap0 : Nat) (c : List Int) (w : World) (hl : c.length = N) (hN : N ≤ 9223372036854775807) (hc : Ints w A0 c) :
    Calls Try.prog 49 #[.slice A0 N cap0] w (RefutePost c w) := by
  have hb2 : ∀ o1, Below w.heap.size w (w.alloc o1) := fun o1 => (Below.refl _ _).alloc (Nat.le_refl _) _
  have hB1 : Blk (w.alloc (.cells #[.slice A0 N cap0] 22)) w.heap.size 22 #[.slice A0 N cap0] := Blk.new _ _ _ rfl
  have had : ∀ ad, A0 = some ad → valC c = true → ad.block < w.heap.size := by
    intro ad had hv
    have h := plr_np hv
    obtain ⟨ad', h1, h2, _⟩ := hc.some_ (by omega)
    rw [had] at h1
    injection h1 with h1
    rw [h1]; exact h2
  have HAD0 := Lib.hid had
  have H := Lib.hid (And.intro hl (And.intro hc (And.intro (hb2 (.cells #[.slice A0 N cap0] 22)) hB1)))
  clear had hl hc hb2 hB1
  go_enter Try.func49, Try.ntmps49
  go_wp2_with fail
  refine (valid_any A0 N cap0 c _ H.out.1 hN (H.out.2.1.below H.out.2.2.1)).mono ?_
  rintro e w1 ⟨rfl, hb1⟩
  obtain ⟨v, hv⟩ : ∃ v, v = valC c := ⟨_, rfl⟩
  rw [← hv]
  have hbl1 : Below w.heap.size w w1 := H.out.2.2.1.trans (hb1.mono (by simp))
  have hk1 := H.out.2.2.2.below hb1 H.out.2.2.2.lt
  have H1 := Lib.hid (And.intro hv (And.intro hbl1 hk1))
  have o1 := hk1.at1.1
  have hz1 := hk1.lt
  clear hv hb1 hbl1 hk1
  cases v
  · go_wp2_with fail
    go_ret2
    exact ⟨H1.out.2.1, .inl ⟨H1.out.1.symm, rfl⟩⟩
  · have hvc := H1.out.1.symm
    obtain ⟨n, hn⟩ : ∃ n, n = plr c := ⟨_, rfl⟩
    have hnp := plr_np hvc
    rw [H.out.1, ← hn] at hnp
    have hn4 : 1 ≤ n ∧ n ≤ 4 := by omega
    have hN16 : N ≤ 16 := by omega
    have HAD := Lib.hid (fun ad had => HAD0.out ad had hvc)
    have HN := Lib.hid (And.intro hnp (And.intro hn hvc))
    clear hvc hnp hn
    go_wp2_with fail
    refine (core_any A0 N cap0 c w1 H.out.1 hN (H.out.2.1.below H1.out.2.1)).mono ?_
    rintro e w2 ⟨hb2, hres⟩
    have hbl2 : Below w.heap.size w w2 := H1.out.2.1.trans (hb2.mono H1.out.2.1.size)
    have hk2 := H1.out.2.2.below hb2 hz1
    rcases hres with ⟨h, _⟩ | ⟨_, hno, rfl⟩ | ⟨_, qs, A', c', hs, rfl, _⟩
    · rw [HN.out.2.2] at h; cases h
    · have o2 := hk2.at1.1
      have hz2 := hk2.lt
      have H2 := Lib.hid (And.intro hno (And.intro hbl2 hk2))
      have hw2 := hbl2.size
      clear hno hb2 hbl2 hk2
      go_wp2_with fail
      refine (players_any A0 N n cap0 w2 HN.out.1).mono ?_
      rintro e w' ⟨rfl, rfl⟩
      go_wp2_with fail
      obtain ⟨wq, hwq⟩ : ∃ wq, wq = (w2.alloc (.cells #[.int .i64 n] 3)).alloc (.cells #[.slice none 0 0] 58) := ⟨_, rfl⟩
      have hbq : Below w2.heap.size w2 wq := by rw [hwq]; exact ((Below.refl _ _).alloc (Nat.le_refl _) _).alloc (by simp) _
      have hBn : Blk wq w2.heap.size 3 #[.int .i64 n] := by rw [hwq]; exact (Blk.new _ _ _ rfl).alloc _
      have hBf : Blk wq (w2.heap.size + 1) 58 #[.slice none 0 0] := by rw [hwq]; exact Blk.new _ _ _ (by simp)
      have hBc := H2.out.2.2.below hbq hz2
      have hbwq : Below w.heap.size w wq := H2.out.2.1.trans (hbq.mono hw2)
      have hBflt := hBf.lt
      have hst : RefI c A0 N cap0 n w2.heap.size w.heap.size (w2.heap.size + 1) 0 wq := ⟨hBn, hBc, hBf, H.out.2.1.below hbwq, HAD.out, fun s hs => by omega⟩
      have HT := Lib.hid (tight_any A0 N cap0 n 78 #[.pointer (some ⟨w2.heap.size, 0, none⟩), .pointer (some ⟨w.heap.size, 0, none⟩), .pointer (some ⟨w2.heap.size + 1, 0, none⟩)] [w2.heap.size + 1] wq (RefI c A0 N cap0 n w2.heap.size w.heap.size (w2.heap.size + 1)) (RefD c (w2.heap.size + 1))
        (fun x hx => by rw [List.mem_singleton.1 hx]; exact hBflt) entF_refute1 hN16 hn4 hst
        (fun t wa wb h hb => ⟨h.bn.below hb (by omega), h.bc.below hb (by omega), h.bf.below hb (by omega), by
          intro i v hv
          obtain ⟨ad, had, hcell⟩ := h.hc i v hv
          have hlt := h.lt ad had
          exact ⟨ad, had, (hb.cell (by rw [add_block]; omega)).trans hcell⟩, h.lt, h.no⟩)
        (by
          intro t wa A cs sets hsets hI hA hcs hcs2 hwa
          have hm := cmb_mem (List.mem_of_getElem? hsets)
          refine (refute1_any A0 N cap0 n c w2.heap.size w.heap.size (w2.heap.size + 1) A cs sets wa hI.hc H.out.1 HN.out.2.2 HN.out.2.1.symm hm.1 (fun s hs => (hm.2.2 s hs).2) hA hI.bn hI.bc hI.bf).mono ?_
          rintro e wb ⟨hk, hres⟩
          refine ⟨hk, ?_⟩
          rcases hres with ⟨hno, he, hbf⟩ | ⟨ts, A', k, c', hs, he, hbf, h4, _, h5, h6, h7⟩
          · refine .inl ⟨he, ⟨hI.bn.kept hk hI.bn.lt (by simp), hI.bc.kept hk hI.bc.lt (by simp; omega), hbf, ?_, hI.lt, ?_⟩⟩
            · exact ints_kept hI.hc hk fun ad had => by
                have hlt := hI.lt ad had
                exact ⟨by omega, by simp; omega⟩
            · intro s hs z hz
              rcases Nat.lt_succ_iff_lt_or_eq.1 hs with h | h
              · exact hI.no s h z hz
              · rw [h, hsets] at hz
                injection hz with hz
                rw [← hz]; exact hno
          · refine .inr ⟨he, ts, A', k, c', ?_, hbf, h4, h5, h6, h7⟩
            unfold refF
            rw [H.out.1, ← HN.out.2.1]
            exact findSome_at hsets hI.no hs))
      have HBQ := Lib.hid hbwq
      rw [← hwq]
      clear hst hwq hbq hBn hBf hBc hbwq
      refine HT.out.mono ?_
      rintro e w3 ⟨rfl, hk3, hres⟩
      have hb3 : Below w.heap.size w w3 := ((Kept.of_below HBQ.out []).trans (hk3.mono HBQ.out.size (fun x hx => by rw [List.mem_singleton.1 hx]; exact .inr (by omega)))).below
      have HB3 := Lib.hid hb3
      rcases hres with hI | ⟨ts, A', k, c', hs, hbf, h4, h5, h6, h7⟩
      · have f1 := hI.bf.at1.1
        have HF : Hid (refF c = none) := Lib.hid (by
          unfold refF
          rw [H.out.1, ← HN.out.2.1]
          exact findSome_no hI.no)
        clear hI hk3 hb3
        go_wp2_with fail
        go_ret2
        exact ⟨HB3.out, .inr (.inr (.inl ⟨HN.out.2.2, H2.out.1, HF.out, rfl⟩))⟩
      · have f1 := hbf.at1.1
        have HF := Lib.hid (And.intro hs (And.intro h4 (And.intro h5 hbf)))
        clear hs h4 h5 hbf hk3 hb3
        go_wp2_with fail
        go_ret2
        exact ⟨HB3.out, .inr (.inr (.inr ⟨HN.out.2.2, H2.out.1, ts, A', k, c', HF.out.1, rfl, HF.out.2.1, HF.out.2.2.1, h6, h7⟩))⟩
    · have HF := Lib.hid (And.intro hbl2 hs)
      clear hb2 hbl2 hk2 hs
      go_wp2_with fail
      go_ret2
      exact ⟨HF.out.1, .inr (.inl ⟨HN.out.2.2, by rw [HF.out.2]; rfl, rfl⟩)⟩

/- Refute finds a collection exactly if no payments are in the core. Plain Lean. -/

theorem sumQ_swap (g : Nat → Nat → Rat) (n k : Nat) : sumQ (fun i => sumQ (g i) k) n = sumQ (fun j => sumQ (fun i => g i j) n) k := by
  induction n with
  | zero => simp only [sumQ]; rw [sumQ_zero]; intros; rfl
  | succ n ih => simp only [sumQ]; rw [ih, ← sumQ_add]
theorem sumQ_mono {f g : Nat → Rat} {n : Nat} (h : ∀ i, i < n → f i ≤ g i) : sumQ f n ≤ sumQ g n := by
  induction n with
  | zero => exact Rat.le_refl
  | succ n ih =>
    simp only [sumQ]
    have h1 := ih fun i hi => h i (by omega)
    have h2 := h n (by omega)
    grind
/-- A share, as a fraction. -/
def shr (t : Pt) : Rat := (t.2.1 : Rat) / (t.2.2 : Rat)
theorem ptN_rat {t : Pt} (h1 : 1 ≤ t.2.2) (h2 : t.2.2 ≤ 12) : (ptN t : Rat) = 27720 * shr t := by
  have e : t.2.2 * (SD / t.2.2) = SD := Int.mul_ediv_cancel' (SD_dvd h1 h2)
  have e2 : ((t.2.2 : Int) : Rat) * ((SD / t.2.2 : Int) : Rat) = 27720 := by
    rw [← Rat.intCast_mul, e]; rfl
  have hne : (t.2.2 : Rat) ≠ 0 := fun h => by
    have := (Rat.intCast_inj (a := t.2.2) (b := 0)).1 h
    omega
  unfold ptN shr
  rw [Rat.intCast_mul, ← e2]
  generalize ((SD / t.2.2 : Int) : Rat) = z
  generalize ((t.2.1 : Int) : Rat) = u
  generalize ((t.2.2 : Int) : Rat) = v at hne
  grind
theorem sI_rat {ts : List Pt} {i : Nat} : ∀ k, (∀ j, j < k → 1 ≤ (pt ts j).2.2 ∧ (pt ts j).2.2 ≤ 12) → (sI ts i k : Rat) = 27720 * sumQ (fun j => shr (pt ts j) * bq (pt ts j).1.toNat i) k := by
  intro k
  induction k with
  | zero => intro _; simp [sI, sumQ]
  | succ k ih =>
    intro h
    have e : ((if (pt ts k).1.toNat.testBit i then 1 else 0 : Int) : Rat) = bq (pt ts k).1.toNat i := by
      unfold bq bitI
      cases (pt ts k).1.toNat.testBit i <;> rfl
    rw [sI, sumQ, Rat.intCast_add, ih fun j hj => h j (by omega), Rat.intCast_mul, e, ptN_rat (h k (by omega)).1 (h k (by omega)).2]
    grind
theorem tI_rat {c : List Int} {ts : List Pt} : ∀ k, (∀ j, j < k → 1 ≤ (pt ts j).2.2 ∧ (pt ts j).2.2 ≤ 12) → (tI c ts k : Rat) = 27720 * sumQ (fun j => shr (pt ts j) * cq c (pt ts j).1.toNat) k := by
  intro k
  induction k with
  | zero => intro _; simp [tI, sumQ]
  | succ k ih =>
    intro h
    rw [tI, sumQ, Rat.intCast_add, ih fun j hj => h j (by omega), Rat.intCast_mul, ptN_rat (h k (by omega)).1 (h k (by omega)).2]
    unfold cq
    grind
/-- Whatever refutes: no payments are in the core. -/
theorem crB_no {c : List Int} {ts : List Pt} {x : Nat → Rat} (h : crB c ts = true) (hx : InC c (plr c) x) : False := by
  unfold crB at h
  split at h
  · obtain ⟨n, hn⟩ : ∃ n, plr c = n := ⟨_, rfl⟩
    rw [hn] at h hx
    unfold refI at h
    rw [Bool.and_eq_true, Bool.and_eq_true, Bool.and_eq_true, decide_eq_true_eq, decide_eq_true_eq] at h
    obtain ⟨⟨⟨_, hg⟩, ho⟩, ht⟩ := h
    have hgj : ∀ j, j < ts.length → (1 ≤ (pt ts j).2.2 ∧ (pt ts j).2.2 ≤ 12) ∧ 1 ≤ (pt ts j).2.1 ∧ (pt ts j).1.toNat < 2 ^ n := fun j hj => by
      obtain ⟨g1, g2, g3, g4, _⟩ := goodI_iff.1 (goodTo_at hg hj)
      have := scB_iff.1 g1
      exact ⟨⟨this.1, this.2.1⟩, g2, by have e : ((2 ^ n : Nat) : Int) = (2 : Int) ^ n := by simp
                                        omega⟩
    have hs : ∀ i, i < n → sumQ (fun j => shr (pt ts j) * bq (pt ts j).1.toNat i) ts.length = 1 := by
      intro i hi
      unfold onesI at ho
      rw [List.all_eq_true] at ho
      have h1 := of_decide_eq_true (ho i (List.mem_range.2 hi))
      have h2 := sI_rat (i := i) ts.length fun j hj => (hgj j hj).1
      rw [h1] at h2
      simp only [Rat.intCast_ofNat] at h2
      grind
    have hc : sumQ (fun j => shr (pt ts j) * cq c (pt ts j).1.toNat) ts.length < cq c (2 ^ n - 1) := by
      have h2 := tI_rat (c := c) ts.length fun j hj => (hgj j hj).1
      have h3 := Rat.intCast_lt_intCast.2 ht
      rw [h2, Rat.intCast_mul] at h3
      simp only [Rat.intCast_ofNat] at h3
      unfold cq at h3 ⊢
      grind
    have hle : sumQ (fun j => shr (pt ts j) * dotS n x (pt ts j).1.toNat) ts.length ≤ sumQ (fun j => shr (pt ts j) * cq c (pt ts j).1.toNat) ts.length := by
      refine sumQ_mono fun j hj => ?_
      obtain ⟨⟨h1, h2⟩, h3, h4⟩ := hgj j hj
      refine Rat.mul_le_mul_of_nonneg_left (hx.2 _ h4) ?_
      unfold shr
      have e1 : (0 : Rat) ≤ ((pt ts j).2.1 : Rat) := (Rat.intCast_le_intCast (a := 0) (b := (pt ts j).2.1)).2 (by omega)
      have e2 : (0 : Rat) ≤ ((pt ts j).2.2 : Rat)⁻¹ := Rat.le_of_lt (Rat.inv_pos.2 ((Rat.intCast_lt_intCast (a := 0) (b := (pt ts j).2.2)).2 (by omega)))
      rw [Rat.div_def]
      exact Rat.mul_nonneg e1 e2
    have e : sumQ (fun j => shr (pt ts j) * dotS n x (pt ts j).1.toNat) ts.length = cq c (2 ^ n - 1) := by
      rw [← hx.1, dot_all]
      have e1 : ∀ j, shr (pt ts j) * dotS n x (pt ts j).1.toNat = sumQ (fun i => x i * (shr (pt ts j) * bq (pt ts j).1.toNat i)) n := fun j => by
        unfold dotS
        rw [← sumQ_mul]
        exact sumQ_congr fun i _ => by grind
      simp only [e1]
      rw [← sumQ_swap (fun i j => x i * (shr (pt ts j) * bq (pt ts j).1.toNat i))]
      refine sumQ_congr fun i hi => ?_
      rw [sumQ_mul, hs i hi]; grind
    grind
  · cases h
theorem pt_app {A : List Pt} {t : Pt} {k : Nat} (h : k < A.length) : pt (A ++ [t]) k = pt A k := by
  unfold pt; rw [List.getD_eq_getElem?_getD, List.getElem?_append_left h, List.getD_eq_getElem?_getD]
theorem pt_last {A : List Pt} {t : Pt} : pt (A ++ [t]) A.length = t := by
  unfold pt; rw [List.getD_eq_getElem?_getD, List.getElem?_append_right (Nat.le_refl _)]; simp
theorem goodTo_snoc {N : Nat} {A : List Pt} {t : Pt} (h : goodTo N A A.length = true) (ht : goodI N (A.map (·.1)) t = true) : goodTo N (A ++ [t]) (A ++ [t]).length = true := by
  rw [List.length_append, List.length_singleton, goodTo_succ, pt_last, Bool.and_eq_true]
  constructor
  · unfold goodTo at h ⊢
    rw [List.all_eq_true] at h ⊢
    intro j hj
    have hj' := List.mem_range.1 hj
    have := h j hj
    rw [pt_app hj']
    have e : prev (A ++ [t]) j = prev A j := by unfold prev; rw [List.take_append_of_le_length (by omega)]
    rw [e]; exact this
  · have e : prev (A ++ [t]) A.length = A.map (·.1) := by unfold prev; rw [List.take_left']; rfl
    rw [e]; exact ht
theorem sum_snoc {A : List Pt} {t : Pt} (f : Pt → Rat) : sumQ (fun j => f (pt (A ++ [t]) j)) (A ++ [t]).length = sumQ (fun j => f (pt A j)) A.length + f t := by
  rw [List.length_append, List.length_singleton, sumQ, pt_last]
  congr 1
  exact sumQ_congr fun j hj => by rw [pt_app hj]
theorem shr_of (s : Int) (q : Rat) : shr (s, q.num, (q.den : Int)) = q := by
  unfold shr
  have e := Rat.num_divInt_den q
  rw [Rat.divInt_eq_div] at e
  exact e
/-- What the list says that the function makes. -/
theorem tsTo_says {h : Nat → Nat → Int} {l : Int} {n N : Nat} {sets : List Nat} {m : Nat → Rat} (hl : sets.length = n) (hp : sets.Pairwise (· < ·)) (hb : ∀ s ∈ sets, 1 ≤ s ∧ s < N) (h0 : l ≠ 0) (h8 : l.natAbs ≤ 8) (hm : ∀ j, j < n → solQ (h j n) l = m (sets.getD j 0)) (hm0 : ∀ s ∈ sets, 0 ≤ m s ∧ m s ≤ 1) :
    ∀ k, k ≤ n → goodTo N (tsTo h l n sets k) (tsTo h l n sets k).length = true ∧ (∀ f : Nat → Rat, sumQ (fun j => shr (pt (tsTo h l n sets k) j) * f (pt (tsTo h l n sets k) j).1.toNat) (tsTo h l n sets k).length = sumQ (fun j => m (sets.getD j 0) * f (sets.getD j 0)) k) := by
  intro k
  induction k with
  | zero => intro _; exact ⟨rfl, fun f => rfl⟩
  | succ k ih =>
    intro hk
    obtain ⟨ih1, ih2⟩ := ih (by omega)
    have hgk : sets[k]? = some (sets.getD k 0) := by rw [List.getD_eq_getElem?_getD, List.getElem?_eq_getElem (by omega)]; rfl
    have hmem := List.mem_of_getElem? hgk
    have hmk := hm k (by omega)
    have he := solQ_eq (x := h k n) h0
    rw [hmk] at he
    by_cases e : h k n = 0
    · have e1 : tsTo h l n sets (k + 1) = tsTo h l n sets k := by rw [tsTo, if_pos e, List.append_nil]
      rw [e1]
      refine ⟨ih1, fun f => ?_⟩
      have hz : m (sets.getD k 0) = 0 := by
        rw [e] at he
        rcases Rat.mul_eq_zero.1 he with h1 | h1
        · exact absurd ((Rat.intCast_inj (a := l) (b := 0)).1 h1) h0
        · exact h1
      rw [sumQ, ih2 f, hz]; grind
    · have e1 : tsTo h l n sets (k + 1) = tsTo h l n sets k ++ [(((sets.getD k 0 : Nat) : Int), (solQ (h k n) l).num, ((solQ (h k n) l).den : Int))] := by rw [tsTo, if_neg e]
      have hne : m (sets.getD k 0) ≠ 0 := fun hz => by
        rw [hz, Rat.mul_zero] at he
        exact e ((Rat.intCast_inj (a := h k n) (b := 0)).1 he.symm)
      have hbm := hm0 _ hmem
      have hpos : 0 < m (sets.getD k 0) := by grind
      have hden := solQ_den (x := h k n) h0 h8
      rw [hmk] at hden
      have hnum := num_bd (m := 1) hden (by decide) (by have : ((1 : Int) : Rat) = 1 := rfl
                                                        rw [this]; grind) (by exact hbm.2)
      have hnp : 0 < (m (sets.getD k 0)).num := by
        have h1 := Rat.num_nonneg.2 hbm.1
        have h2 : (m (sets.getD k 0)).num ≠ 0 := fun h => hne (Rat.num_eq_zero.1 h)
        omega
      rw [e1, hmk]
      refine ⟨goodTo_snoc ih1 (goodI_iff.2 ⟨scB_iff.2 ⟨by have := den_pos (m (sets.getD k 0)); dsimp only; omega, by dsimp only; omega, by dsimp only; omega, by dsimp only; omega, rat_lowest _⟩, by dsimp only; omega, by have := hb _ hmem; dsimp only; omega, by have := hb _ hmem; dsimp only; omega, ?_⟩), fun f => ?_⟩
      · intro hin
        obtain ⟨t, ht, et⟩ := List.mem_map.1 hin
        obtain ⟨i, hi, _, rfl⟩ := tsTo_mem ht
        have h1 := List.pairwise_iff_getElem.1 hp i k (by omega) (by omega) hi
        dsimp only at et
        rw [List.getD_eq_getElem?_getD, List.getElem?_eq_getElem (by omega), List.getD_eq_getElem?_getD, List.getElem?_eq_getElem (by omega)] at et
        simp only [Option.getD_some] at et
        omega
      · rw [sum_snoc (fun t => shr t * f t.1.toNat), ih2 f, sumQ, shr_of]
        dsimp only
        rw [Int.toNat_natCast]
theorem entry_col {n : Nat} {sets : List Nat} (hl : sets.length = n) {i : Nat} (hi : i < n) : (∀ j, j < n → entry (sysR n sets) i j = bitI (sets.getD j 0) i) ∧ entry (sysR n sets) i n = 1 := by
  have e : (sysR n sets).getD i [] = colL sets i := by
    unfold sysR; rw [List.getD_eq_getElem?_getD]; simp [hi]
  unfold entry
  rw [e]
  unfold colL
  refine ⟨fun j hj => ?_, ?_⟩
  · rw [List.getD_eq_getElem?_getD, List.getElem?_append_left (by simpa using by omega), List.getElem?_map, List.getD_eq_getElem?_getD, List.getElem?_eq_getElem (by omega)]
    rfl
  · rw [List.getD_eq_getElem?_getD, List.getElem?_append_right (by simp; omega)]
    simp [hl]
theorem candR_some {c : List Int} {n : Nat} {sets : List Nat} {m : Nat → Rat} (hv : valC c = true) (hn : plr c = n) (hl : sets.length = n) (hp : sets.Pairwise (· < ·)) (hb : ∀ s ∈ sets, 1 ≤ s ∧ s < 2 ^ n) (hm : Bal c n sets m) (hi : Ind n sets) : ∃ ts, candR c n sets = some ts := by
  have hpw := valC_pow hv
  rw [hn] at hpw
  have hd : sets.Nodup := hp.imp (fun h => Nat.ne_of_lt h)
  have hf : Bits (entry (sysR n sets)) n := fun i j hi hj => by
    rw [(entry_col hl hi).1 j hj]; exact bitI_cases _ _
  have hmem : ∀ j, j < n → sets.getD j 0 ∈ sets := fun j hj => by rw [List.getD_eq_getElem?_getD, List.getElem?_eq_getElem (by omega)]; exact List.getElem_mem _
  have hrow : ∀ (y : Nat → Rat) i, i < n → sumQ (fun j => (entry (sysR n sets) i j : Rat) * y j) (n + 1) = sumQ (fun j => y j * bq (sets.getD j 0) i) n + y n := by
    intro y i hi
    rw [sumQ, (entry_col hl hi).2]
    congr 1
    · exact sumQ_congr fun j hj => by
        rw [(entry_col hl hi).1 j hj]
        unfold bq
        exact Rat.mul_comm _ _
    · simp
  have hcol : ∀ (w : Nat → Rat) i, colS w sets i = sumQ (fun j => w (sets.getD j 0) * bq (sets.getD j 0) i) n := fun w i => by
    unfold colS; rw [sumL_get, hl]
  unfold candR
  cases e : slvTo (entry (sysR n sets)) n n with
  | none =>
    obtain ⟨y, h1, h2, j, hj, h3⟩ := slv_none hf hpw.2.2 e
    refine absurd (hi (fun s => y (sets.idxOf s)) (fun i hi => ?_) _ (hmem j hj)) (by rw [nodup_idx hd (by omega)]; exact h3)
    have := h1 i hi
    rw [hrow y i hi, h2] at this
    rw [hcol]
    have e2 : sumQ (fun j => y (sets.idxOf (sets.getD j 0)) * bq (sets.getD j 0) i) n = sumQ (fun j => y j * bq (sets.getD j 0) i) n := sumQ_congr fun j hj => by rw [nodup_idx hd (by omega)]
    rw [e2]; grind
  | some r =>
    obtain ⟨h, l⟩ := r
    obtain ⟨h1, h2, h3⟩ := slv_some hf hpw.2.2 e
    have hy := (h3 (fun j => if j < n then m (sets.getD j 0) else -1)).1 (fun i hi => by
      rw [hrow _ i hi]
      have e1 : sumQ (fun j => (if j < n then m (sets.getD j 0) else -1) * bq (sets.getD j 0) i) n = colS m sets i := by
        rw [hcol]
        exact sumQ_congr fun j hj => by rw [if_pos hj]
      rw [e1, hm.one i hi, if_neg (by omega)]
      grind)
    have hxi : ∀ i, i < n → solQ (h i n) l = m (sets.getD i 0) := fun i hi => by
      have := hy i hi
      rw [if_pos hi, if_neg (by omega)] at this
      exact solQ_of h1 this
    have hm1 : ∀ s ∈ sets, 0 ≤ m s ∧ m s ≤ 1 := by
      intro s hs
      refine ⟨hm.pos s hs, ?_⟩
      obtain ⟨i, hi, hb1⟩ := has_bit (hb s hs).1 (hb s hs).2
      have h4 := hm.one i hi
      unfold colS at h4
      rw [sumL_erase _ hs, hb1] at h4
      have h5 := sumL_nonneg (f := fun s => m s * bq s i) (P := sets.erase s) fun r hr => Rat.mul_nonneg (hm.pos r (List.mem_of_mem_erase hr)) (by rcases bq_cases r i with h | h <;> rw [h] <;> decide)
      grind
    obtain ⟨hg, hsum⟩ := tsTo_says hl hp hb h1 h2 hxi hm1 n (Nat.le_refl _)
    have hden : ∀ j, j < (tsTo h l n sets n).length → 1 ≤ (pt (tsTo h l n sets n) j).2.2 ∧ (pt (tsTo h l n sets n) j).2.2 ≤ 12 := fun j hj => by
      have := scB_iff.1 (goodI_iff.1 (goodTo_at hg hj)).1
      exact ⟨this.1, this.2.1⟩
    have hcr : crB c (tsTo h l n sets n) = true := by
      unfold crB
      rw [hv, if_pos rfl, hn]
      unfold refI
      rw [Bool.and_eq_true, Bool.and_eq_true, Bool.and_eq_true, decide_eq_true_eq, decide_eq_true_eq]
      refine ⟨⟨⟨?_, hg⟩, ?_⟩, ?_⟩
      · have := tsTo_len h l n sets n
        have := Nat.lt_two_pow_self (n := n)
        omega
      · unfold onesI
        rw [List.all_eq_true]
        intro i hi
        rw [decide_eq_true_eq]
        have hi := List.mem_range.1 hi
        have h4 := sI_rat (i := i) _ hden
        rw [hsum (fun s => bq s i), ← hcol, hm.one i hi] at h4
        exact (Rat.intCast_inj (b := 27720)).1 (by rw [h4]; simp)
      · have h4 := tI_rat (c := c) _ hden
        rw [hsum (fun s => cq c s)] at h4
        have h5 := hm.cost
        rw [sumL_get, hl] at h5
        rw [← Rat.intCast_lt_intCast, h4, Rat.intCast_mul]
        simp only [Rat.intCast_ofNat]
        unfold cq at h5 ⊢
        grind
    simp only [hcr, if_true]
    exact ⟨_, rfl⟩
/-- Where no payments are in the core, a collection is found. -/
theorem ref_some {c : List Int} (hv : valC c = true) (hno : coreF c = none) : ∃ ts, refF c = some ts := by
  have hpw := valC_pow hv
  have hcb := (valC_iff.1 hv).2.2
  have hno2 : ¬ ∃ x, InC c (plr c) x := fun ⟨x, hx⟩ => by
    obtain ⟨qs, h⟩ := core_some hv hx
    rw [hno] at h; cases h
  obtain ⟨Q, m, h1, h2, h3, h4, h5⟩ := bal_sorted hcb hno2
  obtain ⟨ts, ht⟩ := candR_some hv rfl h1 h2 h3 h4 h5
  unfold refF
  rw [hpw.1]
  exact findSome_some (cmb_of h1 h2 h3) ht
theorem ref_cr {c : List Int} {ts : List Pt} (h : refF c = some ts) : crB c ts = true := by
  unfold refF at h
  obtain ⟨s, _, hs⟩ := List.exists_of_findSome?_eq_some h
  unfold candR at hs
  split at hs
  · cases hs
  · split at hs
    · rename_i hcc
      injection hs with hs
      rw [← hs]; exact hcc
    · cases hs
/-- Payments in the core are found exactly if there are some. -/
theorem core_iff {c : List Int} (hv : valC c = true) : (coreF c).isSome = true ↔ ∃ x, InC c (plr c) x := by
  constructor
  · intro h
    obtain ⟨qs, hq⟩ := Option.isSome_iff_exists.1 h
    obtain ⟨h1, h2⟩ := core_cc hq
    have hs : ∀ q ∈ qs, smallQ q := by
      unfold ccB coreI sumB at h1
      rw [hv, if_pos rfl, Bool.and_eq_true, Bool.and_eq_true] at h1
      obtain ⟨rs, e1, _, e3⟩ := payB_rats h1.1.1
      have hinj : rs = qs := by
        have hf : ∀ a b : Rat, pr a = pr b → a = b := fun a b h => by
          unfold pr at h
          injection h with h1 h2
          exact Rat.ext h1 (by omega)
        have key : ∀ l1 bs : List Rat, l1.map pr = bs.map pr → l1 = bs := by
          intro l1
          induction l1 with
          | nil => intro bs h; cases bs with
            | nil => rfl
            | cons b bs => cases h
          | cons a l1 ih => intro bs h; cases bs with
            | nil => cases h
            | cons b bs =>
              simp only [List.map_cons, List.cons.injEq] at h
              rw [hf _ _ h.1, ih bs h.2]
        exact key _ _ e1.symm
      rw [← hinj]; exact e3
    exact ⟨_, (ccB_in hv rfl h2 hs).1 h1⟩
  · rintro ⟨x, hx⟩
    obtain ⟨qs, h⟩ := core_some hv hx
    rw [h]; rfl

/- Contract: Objects of package games. -/

/-- What Objects answers. -/
def obG (c : List Int) (ps : List (Int × Int)) : Int × Int := if valC c && sumB c ps (plr c) then (if (objI c ps (plr c) c.length).1 = 0 then (0, 4) else (((objI c ps (plr c) c.length).1 : Nat), 0)) else (0, 2)

set_option maxRecDepth 100000 in
set_option maxHeartbeats 1600000 in
theorem gobjects_any (C : Option Addr) (N capc : Nat) (A : Option Addr) (m cap : Nat) (c : List Int) (ps : List (Int × Int)) (w : World) (hlc : c.length = N) (hNm : N ≤ 9223372036854775807) (hl : ps.length = m) (hm : m ≤ 9223372036854775807)
    (hc : Ints w C c) (h : Prs w A ps) (hr : ∀ p ∈ ps, (-9223372036854775808 ≤ p.1 ∧ p.1 ≤ 9223372036854775807) ∧ -9223372036854775808 ≤ p.2 ∧ p.2 ≤ 9223372036854775807) :
    Calls Try.prog 37 #[.slice C N capc, .slice A m cap] w fun e w' => e = .returned (.tuple #[.int .i64 (obG c ps).1, .int .i64 (obG c ps).2]) ∧ Below w.heap.size w w' := by
  have H := Lib.hid (And.intro hlc (And.intro hl (And.intro hc (And.intro h hr))))
  clear hlc hl hc h hr
  cases hv : valC c
  · have HV : Hid (obG c ps = (0, 2)) := Lib.hid (by simp [obG, hv])
    have HVV := Lib.hid hv
    clear hv
    go_enter Try.func37, Try.ntmps37
    go_wp2_with fail
    refine (valid_any C N capc c _ H.out.1 hNm H.out.2.2.1).mono ?_
    rintro e w1 ⟨rfl, hb⟩
    rw [HVV.out]
    have HB := Lib.hid hb
    clear hb
    go_wp2_with fail
    go_ret2
    exact ⟨by rw [HV.out]; rfl, HB.out⟩
  · have hpw := valC_pow hv
    have hlen := (valC_iff.1 hv).1
    obtain ⟨n, hn⟩ : ∃ n, n = plr c := ⟨_, rfl⟩
    have HV : Hid (obG c ps = if sumB c ps n then (if (objI c ps n N).1 = 0 then (0, 4) else ((((objI c ps n N).1 : Nat) : Int), (0 : Int))) else (0, 2)) := Lib.hid (by unfold obG; rw [hv, Bool.true_and, ← hn, H.out.1])
    rw [← hn] at hpw
    have hN16 : 2 ≤ N ∧ N ≤ 16 := by have := H.out.1; omega
    have hC : ∃ ac, C = some ac := by obtain ⟨ac, h, _⟩ := H.out.2.2.1.some_ (by have := H.out.1; omega); exact ⟨ac, h⟩
    obtain ⟨ac, rfl⟩ := hC
    have HVV := Lib.hid (And.intro hv (And.intro hn hpw))
    have hn4 : 1 ≤ n ∧ n ≤ 4 := hpw.2
    clear hv hpw hn hlen
    go_enter Try.func37, Try.ntmps37
    go_wp2_with fail
    refine (valid_any (some ac) N capc c _ H.out.1 hNm H.out.2.2.1).mono ?_
    rintro e w1 ⟨rfl, hb⟩
    rw [HVV.out.1]
    have HB := Lib.hid hb
    clear hb
    go_wp2_with fail
    refine (payments_any (some ac) N capc A m cap n ps _ hn4.1 hn4.2 (by rw [← H.out.1]; exact HVV.out.2.2.1) H.out.2.1 hm (H.out.2.2.2.1.below HB.out) H.out.2.2.2.2).mono ?_
    rintro e w2 ⟨hb2, hp | hp⟩
    · obtain ⟨hp, g, rfl, hg, hG⟩ := hp
      have HB2 := Lib.hid (And.intro (HB.out.trans (hb2.mono HB.out.size)) (And.intro hG hp))
      have HI := Lib.hid (H.out.2.2.1.below (HB.out.trans (hb2.mono HB.out.size)))
      obtain ⟨n1, x, y, hF⟩ := payIn H.out.1 HVV.out.1 HVV.out.2.1 hp
      have c1 : w2.cell? (ac.add n1) = some (.int .i64 x) := HI.out.some2 n1 _ (by simp [hF.hx])
      have c2 : w2.cell? ⟨g, n1, none⟩ = some (.int .i64 y) := by rw [hG.cell, arr_get, hF.hy]; rfl
      have hxb := hF.hxb
      have hyb := hF.hyb
      have hn1 := hF.hN1
      have HALL : Hid (∀ m, Calls Try.prog 68 #[.slice (some ac) N capc] (w2.drewN m) fun e w'' => e = .returned (.int .i64 x) ∧ ∃ j, w'' = w2.drewN j) := Lib.hid fun m => all_q ac N n1 capc m x w2 hn1 hN16.2 c1
      have e1 : IntKind.i64.wrap ((N : Int) - 1) = (n1 : Int) := by rw [IntWalk.i64_in _ (by omega)]; omega
      have e2 : (N : Int) - 1 = (n1 : Int) := by omega
      have l1 : (n1 : Int) < (N : Int) := by omega
      have l2 : (0 : Int) ≤ (n1 : Int) := by omega
      have e3 : IntKind.i64.wrap (x * 5354228880) = x * 5354228880 := IntWalk.i64_in _ (by omega)
      have HF := Lib.hid hF
      clear hb2 hG hp hF hn1 c1
      by_cases hne : y = x * 5354228880
      · have hq : (y != x * 5354228880) = false := by simp [hne]
        have HS : Hid (sumB c ps n = true) := Lib.hid (by rw [HF.out.hsum]; exact decide_eq_true hne)
        clear hne
        go_wp2_with fail
        go_quiet ((go_at_call 68; exact HALL.out _))
        clear e1 e2 e3 l1 l2 hq c2
        go_wp2_with fail
        go_loop [9, 10, 40] (fun bv mv iv => ∃ k : Nat, k ≤ N ∧ iv = .int .i64 k ∧ bv = .int .i64 ((objI c ps n k).1 : Nat) ∧ mv = .int .i64 (objI c ps n k).2 ∧ (objI c ps n k).2 ≤ 2200000000000000) (fun _ _ iv => N - (intOf iv).toNat)
        case atStart => exact ⟨0, Nat.zero_le _, rfl, rfl, rfl, by simp [objI]⟩
        case round =>
          obtain ⟨k, hk, rfl, rfl, rfl, hmb⟩ := hrel
          have hm0 := objI_nonneg c ps n k
          by_cases hlt : k < N
          · obtain ⟨z, hz⟩ : ∃ z, c[k]? = some z := ⟨_, List.getElem?_eq_getElem (by have := H.out.1; omega)⟩
            have c1 : w2.cell? (ac.add k) = some (.int .i64 z) := HI.out.some2 k _ (by simp [hz])
            have c2 : w2.cell? ⟨g, k, none⟩ = some (.int .i64 (pI ps n k)) := by rw [HB2.out.2.1.cell, arr_get, payRow_get hlt]; rfl
            have hzb := (valC_iff.1 HVV.out.1).2.2 z (List.mem_of_getElem? hz)
            have hpb := HF.out.hall k hlt
            have hgz : c.getD k 0 = z := by rw [List.getD_eq_getElem?_getD, hz]; rfl
            have hstep : objI c ps n (k + 1) = if (objI c ps n k).2 < pI ps n k - z * 5354228880 then (k, pI ps n k - z * 5354228880) else objI c ps n k := by
              rw [objI, hgz]; rfl
            obtain ⟨v, hvv⟩ : ∃ v, v = pI ps n k := ⟨_, rfl⟩
            rw [← hvv] at c2 hpb hstep
            obtain ⟨mo, hmo⟩ : ∃ mo, mo = (objI c ps n k).2 := ⟨_, rfl⟩
            rw [← hmo] at hm0 hmb hstep ⊢
            have HST := Lib.hid hstep
            have HMO := Lib.hid hmo
            clear hz hgz hvv hstep hmo
            by_cases hgt : mo < v - z * 5354228880
            · have HN : Hid (objI c ps n (k + 1) = (k, v - z * 5354228880)) := Lib.hid (by rw [HST.out, if_pos hgt])
              go_wp2_with fail
              go_round
              case rel => exact ⟨k + 1, by omega, by go_num, by rw [HN.out], by rw [HN.out], by rw [HN.out]; show v - z * 5354228880 ≤ _; omega⟩
              case measure => simp [intOf]; omega
            · have HN : Hid (objI c ps n (k + 1) = objI c ps n k) := Lib.hid (by rw [HST.out, if_neg hgt])
              go_wp2_with fail
              go_round
              case rel => exact ⟨k + 1, by omega, by go_num, by rw [HN.out], by rw [HN.out, HMO.out], by rw [HN.out, ← HMO.out]; exact hmb⟩
              case measure => simp [intOf]; omega
          · obtain rfl : N = k := by omega
            obtain ⟨b, hb⟩ : ∃ b, b = (objI c ps n N).1 := ⟨_, rfl⟩
            rw [← hb]
            by_cases hb0 : b = 0
            · have HR : Hid (obG c ps = (0, 4)) := Lib.hid (by rw [HV.out, HS.out, if_pos rfl, if_pos (by rw [← hb]; exact hb0)])
              have hq0 : ((b : Int) == 0) = true := by simp [hb0]
              clear hb hb0
              go_wp2_with fail
              go_ret2
              exact ⟨by rw [HR.out]; rfl, below_drewN HB2.out.1 _⟩
            · have HR : Hid (obG c ps = (((b : Nat) : Int), 0)) := Lib.hid (by rw [HV.out, HS.out, if_pos rfl, if_neg (by rw [← hb]; exact hb0), hb])
              have hq0 : ((b : Int) == 0) = false := by simp [hb0]
              clear hb hb0
              go_wp2_with fail
              go_ret2
              exact ⟨by rw [HR.out]; rfl, below_drewN HB2.out.1 _⟩
      · have hq : (y != x * 5354228880) = true := by simpa using hne
        have HR : Hid (obG c ps = (0, 2)) := Lib.hid (by rw [HV.out, HF.out.hsum, decide_eq_false hne]; rfl)
        clear hne
        go_wp2_with fail
        go_quiet ((go_at_call 68; exact HALL.out _))
        go_wp2_with fail
        go_ret2
        exact ⟨by rw [HR.out]; rfl, below_drewN HB2.out.1 _⟩
    · obtain ⟨hp, rfl⟩ := hp
      have HR : Hid (obG c ps = (0, 2)) := Lib.hid (by rw [HV.out, sumB_false_pay hp]; rfl)
      have HB2 := Lib.hid (HB.out.trans (hb2.mono HB.out.size))
      clear hb2 hp
      go_wp2_with fail
      go_quiet (fail)
      go_wp2_with fail
      go_ret2
      exact ⟨by rw [HR.out]; rfl, below_drewN HB2.out _⟩

/- Contract: Pays of package corrodyref07: the payment of a set. -/

set_option maxHeartbeats 1600000 in
theorem rpays_any (A : Option Addr) (n cap set : Nat) (qs : List Rat) (w : World) (hl : qs.length = n) (hn : n ≤ 4) (hs : set < 65536) (hsm : ∀ q ∈ qs, smallQ q) (h : Fracs w A qs) :
    Calls Try.prog 23 #[.slice A n cap, .int .i64 set] w fun e w' => e = .returned (fr (paysL qs set)) ∧ Below w.heap.size w w' := by
  have H := Lib.hid (And.intro hl (And.intro hsm h))
  generalize hR : fr (paysL qs set) = R
  have HR := Lib.hid hR
  clear hl hsm h hR
  go_enter Try.func23, Try.ntmps23
  go_wp2_with fail
  refine (rwhole_any _ _).mono ?_
  rintro e w1 ⟨rfl, hb⟩
  have hB0 : Blk w1 w.heap.size 31 #[.int .i64 0, .int .i64 0] := (Blk.new _ _ _ rfl).below hb (by go_size)
  have hz1 := hB0.lt
  have hw1 : Below w.heap.size w w1 := ((Below.refl _ _).alloc (Nat.le_refl _) _).trans (hb.mono (by go_size))
  have H1 := Lib.hid (And.intro hB0 hw1)
  clear hb hB0 hw1
  have e0 : fr ((0 : Int) : Rat) = .agg #[.int .i64 0, .int .i64 1] := rfl
  rw [e0]
  go_wp2_with fail
  go_loopw [11] (fun iv wr => ∃ k : Nat, k ≤ n ∧ iv = .int .i64 k ∧ Blk wr w1.heap.size 31 #[.int .i64 (paysTo qs set k).num, .int .i64 ((paysTo qs set k).den : Int)] ∧ Below w1.heap.size w1 wr) (fun iv _ => n - (intOf iv).toNat)
  case atStart => exact ⟨0, Nat.zero_le _, rfl, Blk.new _ _ _ rfl, (Below.refl _ _).alloc (Nat.le_refl _) _⟩
  case round =>
    obtain ⟨k, hk, rfl, hB, hbl⟩ := hrel
    obtain ⟨hl, hsm, hF⟩ := H.out
    by_cases hlt : k < n
    · obtain ⟨ad, hA, _, hc⟩ := hF.some_ (by omega)
      obtain ⟨q, hq⟩ : ∃ q, qs[k]? = some q := ⟨_, List.getElem?_eq_getElem (by omega)⟩
      have hw := H1.out.2
      have c1 := (hw.trans (hbl.mono hw.size)).cell (lt_of_cell (hc k q hq).1) |>.trans (hc k q hq).1
      have c2 := (hw.trans (hbl.mono hw.size)).cell (lt_of_cell (hc k q hq).2) |>.trans (hc k q hq).2
      have hcap := cap_pays hsm set k (by omega)
      have hsq := hsm q (List.mem_of_getElem? hq)
      have hbd := DQ_le (k := k) (by omega)
      have hpb := prod_bds hcap hsq
      have hg : qs.getD k 0 = q := by rw [List.getD_eq_getElem?_getD, hq]; rfl
      have hN := paysTo_succ qs set k
      rw [hg] at hN
      generalize hP : paysTo qs set k = P at *
      generalize hP' : paysTo qs set (k + 1) = P' at *
      have HA := Lib.hid hA
      have HB := Lib.hid (And.intro hB hbl)
      have hBl : ∀ o, Blk (wr.alloc o) w1.heap.size 31 #[.int .i64 P.num, .int .i64 (P.den : Int)] := fun o => hB.alloc o
      obtain ⟨p1, p2, p3, p4⟩ := hB.at2
      have q1 : ∀ o, (wr.alloc o).cell? ⟨w1.heap.size, 0, none⟩ = some (.int .i64 P.num) := fun o => (hBl o).at2.1
      have q2 : ∀ o, (wr.alloc o).cell? ⟨w1.heap.size, 1, none⟩ = some (.int .i64 (P.den : Int)) := fun o => (hBl o).at2.2.1
      have hzz := hB.lt
      have hws := hbl.size
      have hpb' : -4000000000000000000 ≤ P.num * q.den ∧ P.num * q.den ≤ 4000000000000000000 ∧ -4000000000000000000 ≤ q.num * P.den ∧ q.num * P.den ≤ 4000000000000000000 ∧ (P.den : Int) * q.den ≤ 4000000000000000000 := by omega
      have HPB := Lib.hid hpb'
      have HN := Lib.hid hN
      have HP' := Lib.hid hP'
      clear hcap hsq hpb hpb' hN hP' hB hbl hc hF hl hsm hBl hg hq hw hbd
      subst hA
      cases ht : set.testBit k
      · have hbit := and_shr_f (set := set) (k := k) (by omega) ht
        have HT := Lib.hid ht
        clear ht
        go_wp2
        go_roundw
        case rel =>
          refine ⟨k + 1, by omega, by go_num, ?_, HB.out.2.alloc hws _⟩
          have e := HN.out
          rw [HT.out] at e
          rw [HP'.out, e]
          exact HB.out.1.alloc _
        case measure => simp [intOf]; omega
      · have hbit := and_shr_t (set := set) (k := k) (by omega) ht
        have HT := Lib.hid ht
        clear ht
        go_wp2_with fail
        refine (radd_raw P q _ HPB.out.1 HPB.out.2.1 HPB.out.2.2.1 HPB.out.2.2.2.1 HPB.out.2.2.2.2).mono ?_
        rintro e w3 ⟨rfl, hb3⟩
        have e1 : P' = P + q := by have e := HN.out; rw [HT.out] at e; exact e
        rw [← e1]
        have hB3 : Blk w3 w1.heap.size 31 #[.int .i64 P.num, .int .i64 (P.den : Int)] := (HB.out.1.alloc _).below hb3 (by simp; omega)
        have hbl3 : Below w1.heap.size w1 w3 := (HB.out.2.alloc hws _).trans (hb3.mono (by simp; omega))
        obtain ⟨r1, r2, r3, r4⟩ := hB3.at2
        have HB3 := Lib.hid (And.intro hB3 hbl3)
        clear hB3 hbl3 hb3 e1
        unfold fr
        go_wp2
        go_roundw
        case rel =>
          refine ⟨k + 1, by omega, by go_num, ?_, (HB3.out.2.setCell (Nat.le_refl _) _).setCell (Nat.le_refl _) _⟩
          rw [HP'.out]
          have h1 := (HB3.out.1.set_ 0 (.int .i64 P'.num)).set_ 1 (.int .i64 (P'.den : Int))
          exact h1
        case measure => simp [intOf]; omega
    · obtain rfl : k = n := by omega
      have hB0 := H1.out.1.below hbl (by omega)
      obtain ⟨s1, s2, s3, s4⟩ := hB0.at2
      obtain ⟨p1, p2, p3, p4⟩ := hB.at2
      have e : paysTo qs set k = paysL qs set := by rw [paysL, hl]; rfl
      have HE := Lib.hid e
      have HB := Lib.hid (And.intro hB hbl)
      generalize paysTo qs set k = P at *
      clear hB hbl hB0 hl hsm hF e
      go_wp2
      refine bodyPost_ret (v := R) (by simp [results, Try.results23, go_sem, ← HR.out, ← HE.out, fr, s1, s2]) rfl ⟨rfl, ?_⟩
      have hw := H1.out.2
      exact ((hw.trans (HB.out.2.mono hw.size)).setCell (Nat.le_refl _) _).setCell (Nat.le_refl _) _

/- Contracts: Objects and InCore of package corrodyref07, of valid costs and payments. -/

theorem run_eql_frac (p q : Rat) (w : World) : (binOp .eql 31 (.agg #[.int .i64 p.num, .int .i64 (p.den : Int)]) (.agg #[.int .i64 q.num, .int .i64 (q.den : Int)])).run Try.prog w = .ok (.bool (decide (p = q))) w := by
  have e0 : decide (p = q) = (decide (p.num = q.num) && decide ((p.den : Int) = (q.den : Int))) := by
    rw [Bool.eq_iff_iff]; simp only [rat_eq_iff, decide_eq_true_eq, Bool.and_eq_true]
  rw [e0]
  by_cases h1 : p.num = q.num
  · by_cases h2 : (p.den : Int) = (q.den : Int)
    · simp only [h1, h2]; go_simp
    · simp only [h1]; go_simp
  · go_simp
/-- A payment less a cost is not too great. -/
def ovB (x : Rat) : Prop := (x.den : Int) ≤ 331776 ∧ -5900000000 ≤ x.num ∧ x.num ≤ 5900000000
theorem ov_zero : ovB 0 := by unfold ovB; decide
theorem ov_int {z : Int} (h : 0 ≤ z ∧ z ≤ 1000) : ovB (z : Rat) := ⟨by show (1 : Int) ≤ _; omega, by show _ ≤ z; omega, by show z ≤ _; omega⟩
theorem ov_pays {qs : List Rat} {n : Nat} (hl : qs.length = n) (hn : n ≤ 4) (h : ∀ q ∈ qs, smallQ q) (s : Nat) : ((paysL qs s).den : Int) ≤ 331776 ∧ -5529600000 ≤ (paysL qs s).num ∧ (paysL qs s).num ≤ 5529600000 := by
  have h1 := cap_pays h s n (by omega)
  rw [show paysL qs s = paysTo qs s n from by rw [paysL, hl]; rfl]
  have h2 := DQ_le hn
  obtain ⟨a, b, c⟩ := h1
  exact ⟨by omega, by omega, by omega⟩
theorem sub_prods {p : Rat} (hp : (p.den : Int) ≤ 331776 ∧ -5529600000 ≤ p.num ∧ p.num ≤ 5529600000) {z : Int} (hz : 0 ≤ z ∧ z ≤ 1000) :
    -4000000000000000000 ≤ p.num * ((z : Rat).den : Int) ∧ p.num * ((z : Rat).den : Int) ≤ 4000000000000000000 ∧ -4000000000000000000 ≤ (z : Rat).num * p.den ∧ (z : Rat).num * p.den ≤ 4000000000000000000 ∧ (p.den : Int) * ((z : Rat).den : Int) ≤ 4000000000000000000 := by
  have e1 : ((z : Rat).den : Int) = 1 := rfl
  have e2 : (z : Rat).num = z := rfl
  rw [e1, e2]
  have hd := den_pos p
  have := mul_bd (a := z) (b := (p.den : Int)) (m := 1000) (by omega) (by omega) (by omega) hp.1
  omega
theorem ov_sub {p : Rat} (hp : (p.den : Int) ≤ 331776 ∧ -5529600000 ≤ p.num ∧ p.num ≤ 5529600000) {z : Int} (hz : 0 ≤ z ∧ z ≤ 1000) : ovB (p - (z : Rat)) := by
  have e1 : ((z : Rat).den : Int) = 1 := rfl
  have e2 : (z : Rat).num = z := rfl
  have hd := den_pos p
  have hm := mul_bd (a := z) (b := (p.den : Int)) (m := 1000) (by omega) (by omega) (by omega) hp.1
  have hdd : 0 < (p.den : Int) * ((z : Rat).den : Int) := by rw [e1]; omega
  rw [ovB, ← sub_divInt]
  have b1 := divInt_bd (a := p.num * ((z : Rat).den : Int) - (z : Rat).num * p.den) hdd (m := 5900000000) (by rw [e1, e2]; omega) (by rw [e1, e2]; omega)
  have b2 := divInt_den_le (a := p.num * ((z : Rat).den : Int) - (z : Rat).num * p.den) hdd
  exact ⟨by rw [e1] at b2; rw [e1]; omega, b1.1, b1.2⟩
theorem less_prods {x y : Rat} (hx : ovB x) (hy : ovB y) : -4000000000000000000 ≤ x.num * y.den ∧ x.num * y.den ≤ 4000000000000000000 ∧ -4000000000000000000 ≤ y.num * x.den ∧ y.num * x.den ≤ 4000000000000000000 := by
  have dx := den_pos x
  have dy := den_pos y
  have a1 := mul_bd hx.2.1 hx.2.2 (by omega) hy.1
  have a2 := mul_bd hy.2.1 hy.2.2 (by omega) hx.1
  omega
theorem ov_of_pays {p : Rat} (hp : (p.den : Int) ≤ 331776 ∧ -5529600000 ≤ p.num ∧ p.num ≤ 5529600000) : ovB p := ⟨hp.1, by omega, by omega⟩
theorem objR_ov {c : List Int} {qs : List Rat} {n : Nat} (hl : qs.length = n) (hn : n ≤ 4) (h : ∀ q ∈ qs, smallQ q) (hcb : ∀ x ∈ c, 0 ≤ x ∧ x ≤ 1000) (k : Nat) : ovB (objR c qs k).2 := by
  induction k with
  | zero => exact ov_zero
  | succ k ih =>
    simp only [objR]
    split
    · exact ov_sub (ov_pays hl hn h k) (costs_get hcb k)
    · exact ih

/-- What Objects of the reference answers. -/
def obR (c : List Int) (qs : List Rat) (N : Nat) : Int × Int := if (objR c qs N).1 = 0 then (0, 4) else (((objR c qs N).1 : Nat), 0)

set_option maxRecDepth 100000 in
set_option maxHeartbeats 1600000 in
theorem robjects_any (ac : Addr) (N capc : Nat) (A : Option Addr) (n cap : Nat) (c : List Int) (qs : List Rat) (w : World) (hlc : c.length = N) (hN : N ≤ 16) (hl : qs.length = n) (hn : n ≤ 4)
    (hc : Ints w (some ac) c) (hcb : ∀ x ∈ c, 0 ≤ x ∧ x ≤ 1000) (h : Fracs w A qs) (hsm : ∀ q ∈ qs, smallQ q) :
    Calls Try.prog 40 #[.slice (some ac) N capc, .slice A n cap] w fun e w' => e = .returned (.tuple #[.int .i64 (obR c qs N).1, .int .i64 (obR c qs N).2]) ∧ Below w.heap.size w w' := by
  have hov := objR_ov hl hn hsm hcb
  have hpays := ov_pays hl hn hsm
  have H := Lib.hid (And.intro hlc (And.intro hl (And.intro hc (And.intro h (And.intro hsm (And.intro hcb (And.intro hov hpays)))))))
  clear hlc hl hc h hsm hcb hov hpays
  go_enter Try.func40, Try.ntmps40
  go_wp2_with fail
  refine (rwhole_any _ _).mono ?_
  rintro e w1 ⟨rfl, hb⟩
  have HB := Lib.hid hb
  have hw1 := hb.size
  clear hb
  have e0 : fr ((0 : Int) : Rat) = .agg #[.int .i64 0, .int .i64 1] := rfl
  rw [e0]
  clear e0
  go_wp2_with fail
  go_loopw [6, 14] (fun bv iv wr => ∃ k : Nat, k ≤ N ∧ iv = .int .i64 k ∧ bv = .int .i64 ((objR c qs k).1 : Nat) ∧ Blk wr w1.heap.size 31 #[.int .i64 (objR c qs k).2.num, .int .i64 ((objR c qs k).2.den : Int)] ∧ Below w.heap.size w wr) (fun _ iv _ => N - (intOf iv).toNat)
  case atStart => exact ⟨0, Nat.zero_le _, rfl, rfl, Blk.new _ _ _ rfl, HB.out.alloc hw1 _⟩
  case round =>
    obtain ⟨k, hk, rfl, rfl, hM, hbl⟩ := hrel
    obtain ⟨hlc, hl, hc, hF, hsm, hcb, hov, hpays⟩ := H.out
    by_cases hlt : k < N
    · obtain ⟨z, hz⟩ : ∃ z, c[k]? = some z := ⟨_, List.getElem?_eq_getElem (by omega)⟩
      have c1 : wr.cell? (ac.add k) = some (.int .i64 z) := (hc.below hbl).some2 k _ (by simp [hz])
      have hzb := hcb z (List.mem_of_getElem? hz)
      have hgz : c.getD k 0 = z := by rw [List.getD_eq_getElem?_getD, hz]; rfl
      have hstep : objR c qs (k + 1) = if (objR c qs k).2 < paysL qs k - (z : Rat) then (k, paysL qs k - (z : Rat)) else objR c qs k := by rw [objR, hgz]
      have ho := hov k
      have hp := hpays k
      have hF' := hF.below hbl
      have hws := hbl.size
      have hMlt := hM.lt
      obtain ⟨P, hP⟩ : ∃ P, P = paysL qs k := ⟨_, rfl⟩
      obtain ⟨b, m, hbm⟩ : ∃ b m, objR c qs k = (b, m) := ⟨_, _, rfl⟩
      rw [← hP] at hstep hp
      rw [hbm] at hstep ho hM ⊢
      simp only at hstep ho hM ⊢
      have hsp := sub_prods hp hzb
      have hos := ov_sub hp hzb
      obtain ⟨o, hoe⟩ : ∃ o, o = P - (z : Rat) := ⟨_, rfl⟩
      rw [← hoe] at hos hstep
      have hlp := less_prods ho hos
      have HX := Lib.hid (And.intro hM (And.intro hbl (And.intro hF' (And.intro hP (And.intro hbm (And.intro hstep (And.intro hsp (And.intro hlp (And.intro hoe (And.intro hsm hl))))))))))
      clear hlc hl hc hF hsm hcb hov hpays hM hbl hz hgz hstep ho hp hF' hP hbm hsp hos hlp hoe
      go_wp2_with fail
      refine (rpays_any A n cap k qs _ HX.out.2.2.2.2.2.2.2.2.2.2 hn (by omega) HX.out.2.2.2.2.2.2.2.2.2.1 HX.out.2.2.1).mono ?_
      rintro e w2 ⟨rfl, hb2⟩
      rw [← HX.out.2.2.2.1]
      have HB2 := Lib.hid hb2
      have hw2 := hb2.size
      clear hb2
      go_wp2_with fail
      refine (rwhole_any z _).mono ?_
      rintro e w3 ⟨rfl, hb3⟩
      have HB3 := Lib.hid hb3
      have hw3 := hb3.size
      clear hb3
      go_wp2_with fail
      refine (rsub_raw P (z : Rat) _ HX.out.2.2.2.2.2.2.1.1 HX.out.2.2.2.2.2.2.1.2.1 HX.out.2.2.2.2.2.2.1.2.2.1 HX.out.2.2.2.2.2.2.1.2.2.2.1 HX.out.2.2.2.2.2.2.1.2.2.2.2).mono ?_
      rintro e w4 ⟨rfl, hb4⟩
      rw [← HX.out.2.2.2.2.2.2.2.2.1]
      have hw4 := hb4.size
      have hbw4 : Below wr.heap.size wr w4 := (HB2.out.trans (HB3.out.mono hw2)).trans (hb4.mono (by omega))
      have hM4 := HX.out.1.below hbw4 hMlt
      have HB4 := Lib.hid (And.intro hbw4 hM4)
      obtain ⟨p1, p2, p3, p4⟩ := (hM4.alloc (.cells #[.int .i64 o.num, .int .i64 (o.den : Int)] 31)).at2
      clear hb4 hbw4 hM4
      unfold fr
      go_wp2_with fail
      refine (rless_any m o _ HX.out.2.2.2.2.2.2.2.1.1 HX.out.2.2.2.2.2.2.2.1.2.1 HX.out.2.2.2.2.2.2.2.1.2.2.1 HX.out.2.2.2.2.2.2.2.1.2.2.2).mono ?_
      rintro e w5 ⟨rfl, hb5⟩
      have hM5 := (HB4.out.2.alloc (.cells #[.int .i64 o.num, .int .i64 (o.den : Int)] 31)).below hb5 (by simp; omega)
      have hO5 : Blk w5 w4.heap.size 31 #[.int .i64 o.num, .int .i64 (o.den : Int)] := (Blk.new _ _ _ rfl).below hb5 (by simp)
      have hbw5 : Below w.heap.size w w5 := ((HX.out.2.1.trans (HB4.out.1.mono hws)).alloc (by omega) _).trans (hb5.mono (by simp; omega))
      clear p1 p2 p3 p4
      obtain ⟨q1, q2, q3, q4⟩ := hO5.at2
      obtain ⟨r1, r2, r3, r4⟩ := hM5.at2
      have H5 := Lib.hid (And.intro hM5 hbw5)
      have hne : w1.heap.size ≠ w4.heap.size := by omega
      clear hM5 hbw5 hb5 hO5
      by_cases hlt2 : m < o
      · have HN : Hid (objR c qs (k + 1) = (k, o)) := Lib.hid (by rw [HX.out.2.2.2.2.2.1, if_pos hlt2])
        rw [decide_eq_true hlt2]
        clear hlt2
        go_wp2_with fail
        go_region
        go_wp2_with fail
        go_roundw
        case rel =>
          refine ⟨k + 1, by omega, by go_num, by rw [HN.out], ?_, (H5.out.2.drew.setCell (by omega) _).setCell (by omega) _⟩
          rw [HN.out]
          exact (Blk.set_ (w := w5.drew) H5.out.1 0 _).set_ 1 _
        case measure => simp [intOf]; omega
      · have HN : Hid (objR c qs (k + 1) = (b, m)) := Lib.hid (by rw [HX.out.2.2.2.2.2.1, if_neg hlt2])
        rw [decide_eq_false hlt2]
        clear hlt2
        go_wp2_with fail
        go_roundw
        case rel => exact ⟨k + 1, by omega, by go_num, by rw [HN.out], by rw [HN.out]; exact H5.out.1, H5.out.2⟩
        case measure => simp [intOf]; omega
    · obtain rfl : N = k := by omega
      have HB9 := Lib.hid hbl
      clear hM hbl hlc hl hc hF hsm hcb hov hpays
      obtain ⟨b, hb⟩ : ∃ b, b = (objR c qs N).1 := ⟨_, rfl⟩
      rw [← hb]
      by_cases hb0 : b = 0
      · have hq0 : ((b : Int) == 0) = true := by simp [hb0]
        have HH : Hid (obR c qs N = (0, 4)) := Lib.hid (by unfold obR; rw [if_pos (by rw [← hb]; exact hb0)])
        clear hb hb0
        go_wp2_with fail
        go_ret2
        exact ⟨by rw [HH.out]; rfl, HB9.out⟩
      · have hq0 : ((b : Int) == 0) = false := by simp [hb0]
        have HH : Hid (obR c qs N = (((b : Nat) : Int), 0)) := Lib.hid (by unfold obR; rw [if_neg (by rw [← hb]; exact hb0), hb])
        clear hb hb0
        go_wp2_with fail
        go_ret2
        exact ⟨by rw [HH.out]; rfl, HB9.out⟩

set_option maxRecDepth 100000 in
set_option maxHeartbeats 1600000 in
theorem incore_any (ac : Addr) (N capc : Nat) (A : Option Addr) (m cap n : Nat) (c : List Int) (ps : List (Int × Int)) (w : World) (hlc : c.length = N) (hv : valC c = true) (hnp : n = plr c) (hl : ps.length = m) (hm : m ≤ 9223372036854775807)
    (hc : Ints w (some ac) c) (h : Prs w A ps) (hr : ∀ p ∈ ps, (-9223372036854775808 ≤ p.1 ∧ p.1 ≤ 9223372036854775807) ∧ -9223372036854775808 ≤ p.2 ∧ p.2 ≤ 9223372036854775807) :
    Calls Try.prog 45 #[.slice (some ac) N capc, .slice A m cap] w fun e w' => e = .returned (.bool (coreI c ps n)) ∧ Below w.heap.size w w' := by
  have hpw := valC_pow hv
  rw [← hnp] at hpw
  have hn4 : 1 ≤ n ∧ n ≤ 4 := hpw.2
  have hN16 : 2 ≤ N ∧ N ≤ 16 := by have := (valC_iff.1 hv).1; omega
  have H := Lib.hid (And.intro hlc (And.intro hl (And.intro hc (And.intro h (And.intro hr (And.intro hpw (And.intro hv hnp)))))))
  clear hlc hl hc h hr hpw hv hnp
  cases hp : payB n ps
  · have HR : Hid (coreI c ps n = false) := Lib.hid (coreI_of_sum (sumB_false_pay hp))
    have HP := Lib.hid hp
    clear hp
    go_enter Try.func45, Try.ntmps45
    go_wp2_with fail
    refine (rplayers_any (some ac) N capc c _ H.out.1 (by omega) H.out.2.2.1).mono ?_
    rintro e w' ⟨rfl, rfl⟩
    rw [← H.out.2.2.2.2.2.2.2]
    go_wp2_with fail
    refine (rpayments_any A m cap n ps _ H.out.2.1 hm hn4.2 H.out.2.2.2.1 H.out.2.2.2.2.1).mono ?_
    rintro e w1 ⟨rfl, hb⟩
    rw [HP.out]
    have HB := Lib.hid hb
    clear hb
    go_wp2_with fail
    go_ret
    exact ⟨ret_bool HR.out.symm, HB.out⟩
  · obtain ⟨qs, hqs, hql, hsm⟩ := payB_rats hp
    have HP := Lib.hid hp
    have hmn : m = n := by rw [← H.out.2.1, hqs, List.length_map, hql]
    subst hmn
    have hF : Fracs w A qs := by have := H.out.2.2.2.1; rw [hqs] at this; exact this.fracs
    have hpays := ov_pays hql hn4.2 hsm
    have HQ := Lib.hid (And.intro hqs (And.intro hql (And.intro hsm (And.intro hF hpays))))
    clear hp hqs hql hsm hF hpays
    go_enter Try.func45, Try.ntmps45
    go_wp2_with fail
    refine (rplayers_any (some ac) N capc c _ H.out.1 (by omega) H.out.2.2.1).mono ?_
    rintro e w' ⟨rfl, rfl⟩
    rw [← H.out.2.2.2.2.2.2.2]
    go_wp2_with fail
    refine (rpayments_any A m cap m ps _ H.out.2.1 hm hn4.2 H.out.2.2.2.1 H.out.2.2.2.2.1).mono ?_
    rintro e w1 ⟨rfl, hb⟩
    rw [HP.out]
    have HB := Lib.hid hb
    clear hb
    go_wp2_with fail
    go_loopw [14] (fun iv wr => ∃ k : Nat, k ≤ N ∧ iv = .int .i64 k ∧ coreTo c ps m k = true ∧ Below w.heap.size w wr) (fun iv _ => N - (intOf iv).toNat)
    case atStart => exact ⟨0, Nat.zero_le _, rfl, rfl, HB.out⟩
    case round =>
      obtain ⟨k, hk, rfl, ht, hbl⟩ := hrel
      have hws := hbl.size
      by_cases hlt : k < N
      · obtain ⟨z, hz⟩ : ∃ z, c[k]? = some z := ⟨_, List.getElem?_eq_getElem (by have := H.out.1; omega)⟩
        have c1 : wr.cell? (ac.add k) = some (.int .i64 z) := (H.out.2.2.1.below hbl).some2 k _ (by simp [hz])
        have hzb := (valC_iff.1 H.out.2.2.2.2.2.2.1).2.2 z (List.mem_of_getElem? hz)
        have hgz : c.getD k 0 = z := by rw [List.getD_eq_getElem?_getD, hz]; rfl
        have hle := pI_le HQ.out.2.1 HQ.out.2.2.1 k z
        rw [← HQ.out.1] at hle
        have hlp := less_prods (ov_int hzb) (ov_of_pays (HQ.out.2.2.2.2 k))
        have HX := Lib.hid (And.intro hbl (And.intro hgz (And.intro hle (And.intro hlp ht))))
        clear hz hgz hbl hle hlp ht
        go_wp2_with fail
        refine (rwhole_any z _).mono ?_
        rintro e w3 ⟨rfl, hb3⟩
        have HB3 := Lib.hid (HX.out.1.trans (hb3.mono hws))
        clear hb3
        go_wp2_with fail
        refine (rpays_any A m cap k qs _ HQ.out.2.1 hn4.2 (by omega) HQ.out.2.2.1 (HQ.out.2.2.2.1.below HB3.out)).mono ?_
        rintro e w4 ⟨rfl, hb4⟩
        have HB4 := Lib.hid (HB3.out.trans (hb4.mono HB3.out.size))
        clear hb4
        go_wp2_with fail
        refine (rless_any (z : Rat) (paysL qs k) _ HX.out.2.2.2.1.1 HX.out.2.2.2.1.2.1 HX.out.2.2.2.1.2.2.1 HX.out.2.2.2.1.2.2.2).mono ?_
        rintro e w5 ⟨rfl, hb5⟩
        have HB5 := Lib.hid (HB4.out.trans (hb5.mono HB4.out.size))
        clear hb5
        by_cases hlt2 : (z : Rat) < paysL qs k
        · have HR : Hid (coreI c ps m = false) := Lib.hid (by
            unfold coreI
            rw [coreTo_stop (k := k) (by rw [← H.out.2.2.2.2.2.1.1, H.out.1]; exact hlt) (by rw [HX.out.2.1, HX.out.2.2.1]; exact fun h => h hlt2), Bool.and_false])
          rw [decide_eq_true hlt2]
          clear hlt2
          go_wp2_with fail
          go_ret
          exact ⟨ret_bool HR.out.symm, HB5.out⟩
        · have HN : Hid (coreTo c ps m (k + 1) = true) := Lib.hid (by rw [coreTo_succ, HX.out.2.2.2.2, HX.out.2.1, decide_eq_true (HX.out.2.2.1.2 hlt2)]; rfl)
          rw [decide_eq_false hlt2]
          clear hlt2
          go_wp2_with fail
          go_roundw
          case rel => exact ⟨k + 1, by omega, by go_num, HN.out, HB5.out⟩
          case measure => simp [intOf]; omega
      · obtain rfl : N = k := by omega
        obtain ⟨n1, hn1⟩ : ∃ n1, n1 + 1 = N := ⟨N - 1, by omega⟩
        obtain ⟨x, hx⟩ : ∃ x, c[n1]? = some x := ⟨_, List.getElem?_eq_getElem (by have := H.out.1; omega)⟩
        have c1 : ∀ s : Desc wr, s.val.cell? (ac.add n1) = some (.int .i64 x) := fun s => s.cell ((H.out.2.2.1.below hbl).some2 n1 _ (by simp [hx]))
        have e1 : IntKind.i64.wrap ((N : Int) - 1) = (n1 : Int) := by rw [IntWalk.i64_in _ (by omega)]; omega
        have l1 : (n1 : Int) < (N : Int) := by omega
        have l2 : (0 : Int) ≤ (n1 : Int) := by omega
        have e2 : 2 ^ m - 1 = n1 := by have := H.out.2.2.2.2.2.1.1; have := H.out.1; omega
        have hcore : coreI c ps m = decide (paysL qs n1 = ((x : Int) : Rat)) := by
          unfold coreI
          rw [← H.out.2.2.2.2.2.1.1, H.out.1, ht, Bool.and_true, HQ.out.1, sumB_R HQ.out.2.1 HQ.out.2.2.1, e2, List.getD_eq_getElem?_getD, hx]
          rfl
        have HPAYS : Hid (∀ s : Desc wr, Calls Try.prog 23 #[.slice A m cap, .int .i64 n1] s.val fun e w'' => e = .returned (.agg #[.int .i64 (paysL qs n1).num, .int .i64 ((paysL qs n1).den : Int)]) ∧ ∃ s' : Desc wr, w'' = s'.val) := Lib.hid fun s =>
          Calls.desc_of ((rpays_any A m cap n1 qs _ HQ.out.2.1 hn4.2 (by omega) HQ.out.2.2.1 ((HQ.out.2.2.2.1.below hbl).keep fun p v hp => s.cell hp)).mono fun e w' h => ⟨by rw [h.1]; rfl, h.2⟩)
        have HWH : Hid (∀ s : Desc wr, Calls Try.prog 63 #[.int .i64 x] s.val fun e w'' => e = .returned (.agg #[.int .i64 ((x : Int) : Rat).num, .int .i64 (((x : Int) : Rat).den : Int)]) ∧ ∃ s' : Desc wr, w'' = s'.val) := Lib.hid fun s =>
          Calls.desc_of ((rwhole_any x _).mono fun e w' h => ⟨by rw [h.1]; rfl, h.2⟩)
        have hE : ∀ w : World, (binOp .eql 31 (.agg #[.int .i64 (paysL qs n1).num, .int .i64 ((paysL qs n1).den : Int)]) (.agg #[.int .i64 ((x : Int) : Rat).num, .int .i64 (((x : Int) : Rat).den : Int)])).run Try.prog w = .ok (.bool (coreI c ps m)) w := fun w => by
          rw [hcore]
          exact run_eql_frac (paysL qs n1) ((x : Int) : Rat) w
        have HB := Lib.hid hbl
        clear hbl hx hn1 e2 hcore ht
        obtain ⟨R, hR⟩ : ∃ R, R = coreI c ps m := ⟨_, rfl⟩
        have HR := Lib.hid hR
        rw [← hR] at hE
        clear hR
        generalize paysL qs n1 = P at *
        generalize ((x : Int) : Rat) = X at *
        go_wp2_with fail
        refine wp_region_desc (by kernel_rfl) (by kernel_rfl) ?_
        repeat (go_big_quiet_step (first | (go_at_call 23; exact HPAYS.out _) | (go_at_call 63; exact HWH.out _)))
        refine wpQuiet_nil ?_
        rintro _ ⟨sd, rfl⟩
        have HBE := Lib.hid (HB.out.trans (sd.below.mono hws))
        clear c1 hE
        go_wp2_with fail
        go_ret
        exact ⟨ret_bool HR.out, HBE.out⟩

/- GamesObjects and GamesObjecting return true for every costs and payments: the walks. -/

theorem payB_len {n : Nat} {ps : List (Int × Int)} (h : ps.length ≠ n) : payB n ps = false := by unfold payB; rw [decide_eq_false h, Bool.and_false]
theorem sumB_take {c : List Int} {ps : List (Int × Int)} {n : Nat} (h : n ≤ 4) : sumB c (ps.take 6) n = sumB c ps n := by
  by_cases hl : ps.length ≤ 6
  · rw [List.take_of_length_le hl]
  · rw [sumB_false_pay (payB_len (by rw [List.length_take]; omega)), sumB_false_pay (payB_len (by omega))]
theorem obG_take (c : List Int) (ps : List (Int × Int)) : obG (c.take 18) (ps.take 6) = obG c ps := by
  cases hv : valC c
  · simp [obG, hv, valC_take]
  · have h18 : c.take 18 = c := take18 (by have := (valC_iff.1 hv).1; omega)
    rw [h18]
    by_cases hl : ps.length ≤ 6
    · rw [List.take_of_length_le hl]
    · have h4 := (valC_pow hv).2.2
      unfold obG
      rw [hv, sumB_take h4, sumB_false_pay (payB_len (n := plr c) (by omega))]; rfl
theorem ccB_take (c : List Int) (ps : List (Int × Int)) : ccB (c.take 18) (ps.take 6) = ccB c ps := by
  cases hv : valC c
  · simp [ccB, hv, valC_take]
  · have h18 : c.take 18 = c := take18 (by have := (valC_iff.1 hv).1; omega)
    rw [h18]
    have h4 := (valC_pow hv).2.2
    by_cases hl : ps.length ≤ 6
    · rw [List.take_of_length_le hl]
    · unfold ccB coreI
      rw [hv, sumB_take h4, sumB_false_pay (payB_len (n := plr c) (by omega))]; rfl
theorem ccE_take (c : List Int) : ccE (c.take 18) = ccE c := by unfold ccE; rw [valC_take]

set_option maxRecDepth 100000 in
set_option maxHeartbeats 4000000 in
theorem law_objects (A : Option Addr) (n cap : Nat) (c : List Int) (X : Option Addr) (m capx : Nat) (ps : List (Int × Int)) (w : World) (hl : c.length = n) (hcp : n ≤ cap) (hm : cap ≤ 9223372036854775807) (hc : Ints w A c) (_ : ∀ x ∈ c, -9223372036854775808 ≤ x ∧ x ≤ 9223372036854775807)
    (hlp : ps.length = m) (hmp : m ≤ capx) (hcx : capx ≤ 9223372036854775807) (hp : Prs w X ps) (hr : ∀ p ∈ ps, (-9223372036854775808 ≤ p.1 ∧ p.1 ≤ 9223372036854775807) ∧ -9223372036854775808 ≤ p.2 ∧ p.2 ≤ 9223372036854775807) :
    Calls Try.prog 7 #[.slice A n cap, .slice X m capx] w fun e w' => e = .returned (.bool true) ∧ Below w.heap.size w w' := by
  have H := Lib.hid (And.intro hl (And.intro hc (And.intro hlp (And.intro hp hr))))
  clear hl hc hlp hp hr
  go_enter Try.func7, Try.ntmps7
  go_wp2_with fail
  refine (list_any A n cap c _ H.out.1 hcp hm H.out.2.1).mono ?_
  rintro e w1 ⟨A1, c1, rfl, hown, hb⟩
  have hI : Ints w1 A1 (c.take 18) := At.of_own hown
  have hlt : (c.take 18).length = min n 18 := by rw [List.length_take, H.out.1]; omega
  have H1 := Lib.hid (And.intro hI (And.intro hb hlt))
  clear hown hb hI hlt
  go_wp2_with fail
  refine (lfracs_any X m capx ps _ H.out.2.2.1 hmp hcx (H.out.2.2.2.1.below H1.out.2.1)).mono ?_
  rintro e w2 ⟨A2, c2, rfl, hown, hb⟩
  have hI : Prs w2 A2 (ps.take 6) := At.of_own hown
  have hlt : (ps.take 6).length = min m 6 := by rw [List.length_take, H.out.2.2.1]; omega
  have H2 := Lib.hid (And.intro hI (And.intro (H1.out.2.1.trans (hb.mono H1.out.2.1.size)) (And.intro hlt (H1.out.1.below hb))))
  clear hown hb hI hlt
  go_wp2_with fail
  refine (gobjects_any A1 (min n 18) c1 A2 (min m 6) c2 (c.take 18) (ps.take 6) _ H1.out.2.2 (by omega) H2.out.2.2.1 (by omega) H2.out.2.2.2 H2.out.1 (fun p hp => H.out.2.2.2.2 p (List.mem_of_mem_take hp))).mono ?_
  rintro e w3 ⟨rfl, hb3⟩
  rw [obG_take]
  have HB3 := Lib.hid (H2.out.2.1.trans (hb3.mono H2.out.2.1.size))
  clear hb3
  cases hv : valC c
  · have HG : Hid (obG c ps = (0, 2)) := Lib.hid (by simp [obG, hv])
    have HV := Lib.hid hv
    rw [HG.out]
    clear hv
    go_wp2_with fail
    refine (rplayers_any A n cap c _ H.out.1 (by omega) (H.out.2.1.below HB3.out)).mono ?_
    rintro e w' ⟨rfl, rfl⟩
    rw [plr_bad HV.out]
    go_wp2_with fail
    go_quiet (fail)
    go_wp2_with fail
    refine (awake_any _).mono ?_
    rintro e w4 ⟨rfl, hb4⟩
    have HB4 := Lib.hid ((below_drewN HB3.out _).trans (hb4.mono HB3.out.size))
    clear hb4
    go_wp2_with fail
    go_ret
    exact ⟨rfl, HB4.out⟩
  · have hpw := valC_pow hv
    obtain ⟨k, hk⟩ : ∃ k, k = plr c := ⟨_, rfl⟩
    rw [← hk] at hpw
    have hlen := (valC_iff.1 hv).1
    have hk4 : 1 ≤ k ∧ k ≤ 4 := hpw.2
    have hn16 : 2 ≤ n ∧ n ≤ 16 := by have := H.out.1; omega
    have hA : ∃ ad, A = some ad := by obtain ⟨ad, h, _⟩ := H.out.2.1.some_ (by omega); exact ⟨ad, h⟩
    obtain ⟨ad, rfl⟩ := hA
    have HV := Lib.hid (And.intro hv (And.intro hpw hk))
    have hne : ((k : Int) == 0) = false := by simp; omega
    clear hv hpw hk hlen
    cases hpb : payB k ps
    · have HG : Hid (obG c ps = (0, 2)) := Lib.hid (by unfold obG; rw [HV.out.1, ← HV.out.2.2, sumB_false_pay hpb]; rfl)
      have HP := Lib.hid hpb
      rw [HG.out]
      clear hpb
      go_wp2_with fail
      refine (rplayers_any (some ad) n cap c _ H.out.1 (by omega) (H.out.2.1.below HB3.out)).mono ?_
      rintro e w' ⟨rfl, rfl⟩
      rw [← HV.out.2.2]
      have HPAY : Hid (∀ s : Desc w3, Calls Try.prog 39 #[.int .i64 k, .slice X m capx] s.val fun e w'' => e = .returned (.bool false) ∧ ∃ s' : Desc w3, w'' = s'.val) := Lib.hid fun s =>
        Calls.desc_of ((rpayments_any X m capx k ps _ H.out.2.2.1 (by omega) hk4.2 ((H.out.2.2.2.1.below HB3.out).keep fun p v hp => s.cell hp) H.out.2.2.2.2).mono fun e w' h => ⟨by rw [h.1, HP.out], h.2⟩)
      go_wp2_with fail
      refine wp_region_desc (by kernel_rfl) (by kernel_rfl) ?_
      repeat (go_big_quiet_step ((go_at_call 39; exact HPAY.out _)))
      refine wpQuiet_nil ?_
      rintro _ ⟨sd, rfl⟩
      have HB4 := Lib.hid (HB3.out.trans (sd.below.mono HB3.out.size))
      go_wp2_with fail
      refine (awake_any _).mono ?_
      rintro e w5 ⟨rfl, hb5⟩
      have HB5 := Lib.hid (HB4.out.trans (hb5.mono HB4.out.size))
      clear hb5
      go_wp2_with fail
      go_ret
      exact ⟨rfl, HB5.out⟩
    · obtain ⟨qs, hqs, hql, hsm⟩ := payB_rats hpb
      have hmk : m = k := by rw [← H.out.2.2.1, hqs, List.length_map, hql]
      subst hmk
      have hF : Fracs w X qs := by have := H.out.2.2.2.1; rw [hqs] at this; exact this.fracs
      have HP := Lib.hid hpb
      have HQ := Lib.hid (And.intro hqs (And.intro hql (And.intro hsm hF)))
      obtain ⟨n1, hn1⟩ : ∃ n1, n1 + 1 = n := ⟨n - 1, by omega⟩
      obtain ⟨x, hx⟩ : ∃ x, c[n1]? = some x := ⟨_, List.getElem?_eq_getElem (by have := H.out.1; omega)⟩
      have e2 : 2 ^ m - 1 = n1 := by have := HV.out.2.1.1; have := H.out.1; omega
      have hsum : sumB c ps m = decide (paysL qs n1 = ((x : Int) : Rat)) := by
        rw [hqs, sumB_R hql hsm, e2, List.getD_eq_getElem?_getD, hx]; rfl
      have HSUM := Lib.hid (And.intro hsum (And.intro hx hn1))
      have e1 : IntKind.i64.wrap ((n : Int) - 1) = (n1 : Int) := by rw [IntWalk.i64_in _ (by omega)]; omega
      have l1 : (n1 : Int) < (n : Int) := by omega
      have l2 : (0 : Int) ≤ (n1 : Int) := by omega
      have hn1b : n1 < 65536 := by omega
      have HPAY : Hid (∀ s : Desc w3, Calls Try.prog 39 #[.int .i64 m, .slice X m capx] s.val fun e w'' => e = .returned (.bool true) ∧ ∃ s' : Desc w3, w'' = s'.val) := Lib.hid fun s =>
        Calls.desc_of ((rpayments_any X m capx m ps _ H.out.2.2.1 (by omega) hk4.2 ((H.out.2.2.2.1.below HB3.out).keep fun p v hp => s.cell hp) H.out.2.2.2.2).mono fun e w' h => ⟨by rw [h.1, HP.out], h.2⟩)
      have HPS : Hid (∀ s : Desc w3, Calls Try.prog 23 #[.slice X m capx, .int .i64 n1] s.val fun e w'' => e = .returned (.agg #[.int .i64 (paysL qs n1).num, .int .i64 ((paysL qs n1).den : Int)]) ∧ ∃ s' : Desc w3, w'' = s'.val) := Lib.hid fun s =>
        Calls.desc_of ((rpays_any X m capx n1 qs _ HQ.out.2.1 hk4.2 hn1b HQ.out.2.2.1 ((HQ.out.2.2.2.below HB3.out).keep fun p v hp => s.cell hp)).mono fun e w' h => ⟨by rw [h.1]; rfl, h.2⟩)
      have c3 : ∀ s : Desc w3, s.val.cell? (ad.add n1) = some (.int .i64 x) := fun s => s.cell ((H.out.2.1.below HB3.out).some2 n1 _ (by simp [hx]))
      have hN : ∀ w : World, (binOp .neq 31 (.agg #[.int .i64 (paysL qs n1).num, .int .i64 ((paysL qs n1).den : Int)]) (.agg #[.int .i64 x, .int .i64 1])).run Try.prog w = .ok (.bool (!sumB c ps m)) w := fun w => by
        have := run_neq_frac (paysL qs n1) ((x : Int) : Rat) w
        rw [hsum]
        unfold neB at this
        rw [show (!decide (paysL qs n1 = ((x : Int) : Rat))) = decide (paysL qs n1 ≠ ((x : Int) : Rat)) from by simp]
        exact this
      clear hpb hqs hql hsm hF hx hn1 e2 hsum
      cases hs : sumB c ps m
      · have HG : Hid (obG c ps = (0, 2)) := Lib.hid (by unfold obG; rw [HV.out.1, ← HV.out.2.2, hs]; rfl)
        rw [HG.out]
        rw [hs] at hN
        clear hs
        generalize paysL qs n1 = P at *
        go_wp2_with fail
        refine (rplayers_any (some ad) n cap c _ H.out.1 (by omega) (H.out.2.1.below HB3.out)).mono ?_
        rintro e w' ⟨rfl, rfl⟩
        rw [← HV.out.2.2]
        go_wp2_with fail
        refine wp_region_desc (by kernel_rfl) (by kernel_rfl) ?_
        repeat (go_big_quiet_step (first | (go_at_call 39; exact HPAY.out _) | (go_at_call 23; exact HPS.out _)))
        refine wpQuiet_nil ?_
        rintro _ ⟨sd, rfl⟩
        have HB4 := Lib.hid (HB3.out.trans (sd.below.mono HB3.out.size))
        clear c3 hN
        go_wp2_with fail
        refine (awake_any _).mono ?_
        rintro e w5 ⟨rfl, hb5⟩
        have HB5 := Lib.hid (HB4.out.trans (hb5.mono HB4.out.size))
        clear hb5
        go_wp2_with fail
        go_ret
        exact ⟨rfl, HB5.out⟩
      · have HG : Hid (obG c ps = obR c qs n) := Lib.hid (by
          unfold obG obR
          rw [HV.out.1, ← HV.out.2.2, hs, H.out.1, HQ.out.1, (obj_R HQ.out.2.1 HQ.out.2.2.1 n).1]; rfl)
        rw [HG.out]
        obtain ⟨r1, r2, hr12⟩ : ∃ r1 r2, obR c qs n = (r1, r2) := ⟨_, _, rfl⟩
        have HR := Lib.hid hr12
        rw [hr12]
        rw [hs] at hN
        clear hs hr12
        generalize paysL qs n1 = P at *
        have eq1 : (r1 == r1) = true := by simp
        have eq2 : (r2 == r2) = true := by simp
        go_wp2_with fail
        refine (rplayers_any (some ad) n cap c _ H.out.1 (by omega) (H.out.2.1.below HB3.out)).mono ?_
        rintro e w' ⟨rfl, rfl⟩
        rw [← HV.out.2.2]
        go_wp2_with fail
        refine wp_region_desc (by kernel_rfl) (by kernel_rfl) ?_
        repeat (go_big_quiet_step (first | (go_at_call 39; exact HPAY.out _) | (go_at_call 23; exact HPS.out _)))
        refine wpQuiet_nil ?_
        rintro _ ⟨sd, rfl⟩
        have HB4 := Lib.hid (HB3.out.trans (sd.below.mono HB3.out.size))
        clear c3 hN
        go_wp2_with fail
        refine (robjects_any ad n cap X m capx c qs _ H.out.1 hn16.2 HQ.out.2.1 hk4.2 (H.out.2.1.below HB4.out) (valC_iff.1 HV.out.1).2.2 (HQ.out.2.2.2.below HB4.out) HQ.out.2.2.1).mono ?_
        rintro e w5 ⟨rfl, hb5⟩
        rw [HR.out]
        have HB5 := Lib.hid (HB4.out.trans (hb5.mono HB4.out.size))
        clear hb5
        go_wp2_with fail
        refine (awake_any _).mono ?_
        rintro e w6 ⟨rfl, hb6⟩
        have HB6 := Lib.hid (HB5.out.trans (hb6.mono HB5.out.size))
        clear hb6
        go_wp2_with fail
        go_ret
        exact ⟨rfl, HB6.out⟩

/- What Core and Refute answer, for every costs, in one form. -/

def coreQ (c : List Int) : List Rat := if valC c then (coreF c).getD [] else []
def coE (c : List Int) : Int := if valC c then (if (coreF c).isSome then 0 else 4) else 2
def refQ (c : List Int) : List Pt := if valC c then (if (coreF c).isSome then [] else (refF c).getD []) else []
def rfE (c : List Int) : Int := if valC c then (if (coreF c).isSome then 4 else 0) else 2
theorem core2_any (A0 : Option Addr) (N cap0 : Nat) (c : List Int) (w : World) (hl : c.length = N) (hN : N ≤ 9223372036854775807) (hc : Ints w A0 c) :
    Calls Try.prog 47 #[.slice A0 N cap0] w fun e w' => ∃ A' k c', e = .returned (.tuple #[.slice A' k c', .int .i64 (coE c)]) ∧ (coreQ c).length = k ∧ Fracs w' A' (coreQ c) ∧ k ≤ c' ∧ c' ≤ 9223372036854775807 ∧ Below w.heap.size w w' := by
  have hnil : ∀ w' : World, Fracs w' none [] := fun w' i v hv => by simp [fcells] at hv
  refine (core_any A0 N cap0 c w hl hN hc).mono ?_
  rintro e w' ⟨hb, ⟨hv, rfl⟩ | ⟨hv, hn, rfl⟩ | ⟨hv, qs, A', c', hq, rfl, h1, h2, h3, h4⟩⟩
  · have e1 : coreQ c = [] := by simp [coreQ, hv]
    exact ⟨none, 0, 0, by simp [coE, hv], by simp [e1], by rw [e1]; exact hnil w', by omega, by omega, hb⟩
  · have e1 : coreQ c = [] := by simp [coreQ, hv, hn]
    exact ⟨none, 0, 0, by simp [coE, hv, hn], by simp [e1], by rw [e1]; exact hnil w', by omega, by omega, hb⟩
  · have e1 : coreQ c = qs := by simp [coreQ, hv, hq]
    exact ⟨A', plr c, c', by simp [coE, hv, hq], by rw [e1, h1], by rw [e1]; exact h2, h3, h4, hb⟩
theorem refute2_any (A0 : Option Addr) (N cap0 : Nat) (c : List Int) (w : World) (hl : c.length = N) (hN : N ≤ 9223372036854775807) (hc : Ints w A0 c) :
    Calls Try.prog 49 #[.slice A0 N cap0] w fun e w' => ∃ A' k c', e = .returned (.tuple #[.slice A' k c', .int .i64 (rfE c)]) ∧ (refQ c).length = k ∧ Tps w' A' (refQ c) ∧ k ≤ c' ∧ c' ≤ 9223372036854775807 ∧ Below w.heap.size w w' := by
  have hnil : ∀ w' : World, Tps w' none [] := fun w' i v hv => by simp [tcells] at hv
  refine (refute_any A0 N cap0 c w hl hN hc).mono ?_
  rintro e w' ⟨hb, ⟨hv, rfl⟩ | ⟨hv, hs, rfl⟩ | ⟨hv, hn, hr, rfl⟩ | ⟨hv, hn, ts, A', k, c', hq, rfl, h1, h2, h3, h4⟩⟩
  · have e1 : refQ c = [] := by simp [refQ, hv]
    exact ⟨none, 0, 0, by simp [rfE, hv], by simp [e1], by rw [e1]; exact hnil w', by omega, by omega, hb⟩
  · have e1 : refQ c = [] := by simp [refQ, hv, hs]
    exact ⟨none, 0, 0, by simp [rfE, hv, hs], by simp [e1], by rw [e1]; exact hnil w', by omega, by omega, hb⟩
  · have e1 : refQ c = [] := by simp [refQ, hv, hn, hr]
    exact ⟨none, 0, 0, by simp [rfE, hv, hn], by simp [e1], by rw [e1]; exact hnil w', by omega, by omega, hb⟩
  · have e1 : refQ c = ts := by simp [refQ, hv, hn, hq]
    exact ⟨A', k, c', by simp [rfE, hv, hn], by rw [e1, h1], by rw [e1]; exact h2, h3, h4, hb⟩
theorem coE_take (c : List Int) : coE (c.take 18) = coE c := by
  cases hv : valC c
  · simp [coE, hv, valC_take]
  · rw [take18 (by have := (valC_iff.1 hv).1; omega)]
theorem rfE_take (c : List Int) : rfE (c.take 18) = rfE c := by
  cases hv : valC c
  · simp [rfE, hv, valC_take]
  · rw [take18 (by have := (valC_iff.1 hv).1; omega)]
theorem coreQ_take (c : List Int) : coreQ (c.take 18) = coreQ c := by
  cases hv : valC c
  · simp [coreQ, hv, valC_take]
  · rw [take18 (by have := (valC_iff.1 hv).1; omega)]
theorem refQ_take (c : List Int) : refQ (c.take 18) = refQ c := by
  cases hv : valC c
  · simp [refQ, hv, valC_take]
  · rw [take18 (by have := (valC_iff.1 hv).1; omega)]
theorem crB_bad {c : List Int} {ts : List Pt} (h : valC c = false) : crB c ts = false := by simp [crB, h]
theorem crB_take18 (c : List Int) (ts : List Pt) : crB (c.take 18) ts = crB c ts := by
  cases hv : valC c
  · rw [crB_bad hv, crB_bad (by rw [valC_take]; exact hv)]
  · rw [take18 (by have := (valC_iff.1 hv).1; omega)]
theorem ccB_take18 (c : List Int) (ps : List (Int × Int)) : ccB (c.take 18) ps = ccB c ps := by
  cases hv : valC c
  · simp [ccB, hv, valC_take]
  · rw [take18 (by have := (valC_iff.1 hv).1; omega)]
theorem ccB_core {c : List Int} {ps : List (Int × Int)} (h : ccB c ps = true) : (coreF c).isSome = true := by
  unfold ccB at h
  split at h
  · rename_i hv
    have h2 : payB (plr c) ps = true := by
      unfold coreI sumB at h
      rw [Bool.and_eq_true, Bool.and_eq_true] at h
      exact h.1.1
    obtain ⟨qs, rfl, h3, h4⟩ := payB_rats h2
    exact (core_iff hv).2 ⟨_, (ccB_in hv rfl h3 h4).1 (by unfold ccB; rw [hv, if_pos rfl]; exact h)⟩
  · cases h
theorem crB_core {c : List Int} {ts : List Pt} (hv : valC c = true) (h : crB c ts = true) : (coreF c).isSome = false := by
  cases hs : (coreF c).isSome
  · rfl
  · obtain ⟨x, hx⟩ := (core_iff hv).1 hs
    exact absurd hx fun hx => crB_no h hx
/-- The facts when payments are found. -/
theorem core_facts {c : List Int} (hv : valC c = true) (hs : (coreF c).isSome = true) : coE c = 0 ∧ rfE c = 4 ∧ refQ c = [] ∧ ccB c ((coreQ c).map pr) = true ∧ (coreQ c).length = plr c ∧ ∀ p ∈ (coreQ c).map pr, (-9223372036854775808 ≤ p.1 ∧ p.1 ≤ 9223372036854775807) ∧ -9223372036854775808 ≤ p.2 ∧ p.2 ≤ 9223372036854775807 := by
  obtain ⟨qs, hq⟩ := Option.isSome_iff_exists.1 hs
  have e1 : coreQ c = qs := by simp [coreQ, hv, hq]
  obtain ⟨h1, h2⟩ := core_cc hq
  rw [e1]
  refine ⟨by simp [coE, hv, hs], by simp [rfE, hv, hs], by simp [refQ, hv, hs], h1, h2, fun p hp => ?_⟩
  have h3 : payB (plr c) (qs.map pr) = true := by
    unfold ccB coreI sumB at h1
    rw [hv, if_pos rfl, Bool.and_eq_true, Bool.and_eq_true] at h1
    exact h1.1.1
  unfold payB at h3
  rw [Bool.and_eq_true, List.all_eq_true] at h3
  have := scB_iff.1 (h3.1 p hp)
  omega
/-- .. and when not. -/
theorem ref_facts {c : List Int} (hv : valC c = true) (hs : (coreF c).isSome = false) : coE c = 4 ∧ rfE c = 0 ∧ coreQ c = [] ∧ crB c (refQ c) = true ∧ (refQ c).length ≤ 18 ∧ ∀ t ∈ refQ c, (-9223372036854775808 ≤ t.1 ∧ t.1 ≤ 9223372036854775807) ∧ (-9223372036854775808 ≤ t.2.1 ∧ t.2.1 ≤ 9223372036854775807) ∧ -9223372036854775808 ≤ t.2.2 ∧ t.2.2 ≤ 9223372036854775807 := by
  have hn : coreF c = none := by cases h : coreF c with
    | none => rfl
    | some q => rw [h] at hs; cases hs
  obtain ⟨ts, ht⟩ := ref_some hv hn
  have e1 : refQ c = ts := by simp [refQ, hv, hn, ht]
  have h1 := ref_cr ht
  have hpw := valC_pow hv
  rw [e1]
  have h2 := h1
  unfold crB refI at h2
  rw [hv, if_pos rfl, Bool.and_eq_true, Bool.and_eq_true, Bool.and_eq_true, decide_eq_true_eq] at h2
  have h16 : 2 ^ plr c ≤ 16 := Nat.pow_le_pow_right (show 0 < 2 by decide) hpw.2.2
  refine ⟨by simp [coE, hv, hn], by simp [rfE, hv, hn], by simp [coreQ, hv, hn], h1, by omega, fun t ht' => ?_⟩
  obtain ⟨j, hj, rfl⟩ := List.getElem_of_mem ht'
  obtain ⟨g1, g2, g3, g4, _⟩ := goodI_iff.1 (goodTo_at h2.1.1.2 hj)
  have e2 : pt ts j = ts[j] := pt_get (List.getElem?_eq_getElem hj)
  rw [e2] at g1 g2 g3 g4
  have := scB_iff.1 g1
  have e3 : ((2 ^ plr c : Nat) : Int) ≤ 16 := by omega
  rw [Int.natCast_pow] at e3
  have e4 : ts[j].1 < 16 := by
    have : ((2 ^ plr c : Nat) : Int) = (2 : Int) ^ plr c := by simp
    omega
  omega

/- Where costs are concave, the Shapley payments are in the core; Concave and Join in one form. -/

theorem dot_addUp {n : Nat} {s js : List Int} (hl : s.length = n) (S : Nat) : dotS n (payR (addUp s js n)) S = dotS n (payR s) S + dotS n (payR js) S := by
  unfold dotS
  rw [← sumQ_add]
  refine sumQ_congr fun i hi => ?_
  unfold payR
  rw [addUp_get s js n i (by omega), if_pos hi, Rat.intCast_add]
  grind
theorem dot_addAll {c : List Int} {n S : Nat} : ∀ (L : List (List Nat)) (s : List Int), s.length = n → (∀ os ∈ L, InC c n (payR (joinL c os))) → S < 2 ^ n →
    dotS n (payR (addAll c n s L)) S ≤ dotS n (payR s) S + ((L.length : Int) : Rat) * cq c S ∧ (S = 2 ^ n - 1 → dotS n (payR (addAll c n s L)) S = dotS n (payR s) S + ((L.length : Int) : Rat) * cq c S) := by
  intro L
  induction L with
  | nil =>
    intro s _ _ _
    have e : (((([] : List (List Nat)).length : Nat) : Int) : Rat) = 0 := rfl
    rw [e]
    unfold addAll
    simp only [List.foldl_nil]
    exact ⟨by grind, fun _ => by grind⟩
  | cons os L ih =>
    intro s hl h hS
    have h1 := ih (addUp s (joinL c os) n) (by rw [addUp_length]; exact hl) (fun o ho => h o (List.mem_cons_of_mem _ ho)) hS
    have h2 := h os (List.mem_cons_self ..)
    have h3 := h2.2 S hS
    rw [dot_addUp hl] at h1
    have e : ((((os :: L).length : Nat) : Int) : Rat) = ((L.length : Int) : Rat) + 1 := by
      rw [List.length_cons, Int.natCast_add, Rat.intCast_add]; rfl
    have e2 : addAll c n s (os :: L) = addAll c n (addUp s (joinL c os) n) L := rfl
    rw [e, e2]
    refine ⟨by grind, fun hS' => ?_⟩
    have h4 := h1.2 hS'
    have h5 := h2.1
    rw [← hS'] at h5
    grind
theorem ext_core {c : List Int} {n : Nat} (h1 : 1 ≤ n) (h4 : n ≤ 4) (hN : c.length = 2 ^ n) (hc : Conc c) (h0 : c.getD 0 0 = 0) : ∀ os ∈ ext n n [], InC c n (payR (joinL c os)) := by
  intro os ho
  obtain ⟨hd, hs, _⟩ := ext_facts h1 h4 os ho
  have hm := ext_mem (n := n) (m := n) (pre := []) (by simp) os ho
  exact joinL_core hN hc h0 hd hm.2 (by simpa using hm.1) hs
theorem shap_core {c : List Int} {n : Nat} (h1 : 1 ≤ n) (h4 : n ≤ 4) (hN : c.length = 2 ^ n) (hc : Conc c) (h0 : c.getD 0 0 = 0) : InC c n (fun i => (shapL c n).getD i 0) := by
  have hx := ext_core h1 h4 hN hc h0
  have hm := (ext_len h4).1
  have hmq : (0 : Rat) < (((ext n n []).length : Int) : Rat) := (Rat.intCast_lt_intCast (a := 0) (b := ((ext n n []).length : Int))).2 (by omega)
  have hmi : (((ext n n []).length : Int) : Rat) * (((ext n n []).length : Int) : Rat)⁻¹ = 1 := Rat.mul_inv_cancel _ (by grind)
  have hi0 := Rat.le_of_lt (Rat.inv_pos.2 hmq)
  have hsl : (sumsL c n).length = n := by unfold sumsL; rw [addAll_length]; simp
  have e : ∀ S, dotS n (fun i => (shapL c n).getD i 0) S = (((ext n n []).length : Int) : Rat)⁻¹ * dotS n (payR (sumsL c n)) S := by
    intro S
    unfold dotS
    rw [← sumQ_mul]
    refine sumQ_congr fun i hi => ?_
    have e1 : (shapL c n).getD i 0 = payR (sumsL c n) i / (((ext n n []).length : Int) : Rat) := by
      unfold shapL payR
      rw [List.getD_eq_getElem?_getD, List.getElem?_map, List.getD_eq_getElem?_getD, List.getElem?_eq_getElem (by omega)]
      simp only [Option.map_some, Option.getD_some]
      exact Rat.divInt_eq_div _ _
    show bq S i * (shapL c n).getD i 0 = _
    rw [e1, Rat.div_def]
    grind
  have hz : ∀ S, dotS n (payR (List.replicate n (0 : Int))) S = 0 := fun S => sumQ_zero fun j hj => by
    unfold payR
    rw [List.getD_eq_getElem?_getD, List.getElem?_replicate, if_pos (by omega)]
    simp
  have hp2 := Nat.two_pow_pos n
  constructor
  · have h := (dot_addAll (S := 2 ^ n - 1) (ext n n []) (List.replicate n 0) (by simp) hx (by omega)).2 rfl
    rw [e, show sumsL c n = addAll c n (List.replicate n 0) (ext n n []) from rfl, h, hz]
    grind
  · intro S hS
    have h := (dot_addAll (S := S) (ext n n []) (List.replicate n 0) (by simp) hx hS).1
    rw [hz] at h
    rw [e, show sumsL c n = addAll c n (List.replicate n 0) (ext n n []) from rfl]
    have h2 := Rat.mul_le_mul_of_nonneg_left h hi0
    have e3 : (((ext n n []).length : Int) : Rat)⁻¹ * (0 + (((ext n n []).length : Int) : Rat) * cq c S) = cq c S := by grind
    rw [e3] at h2
    exact h2
/-- Valid orders. -/
def ordOk (n : Nat) (os : List Nat) : Bool := !ordG n (os.map Int.ofNat) || (decide os.Nodup && setOfO os == 2 ^ n - 1)
theorem ord_ok1 : ∀ a, a < 1 → ordOk 1 [a] = true := by decide
theorem ord_ok2 : ∀ a, a < 2 → ∀ b, b < 2 → ordOk 2 [a, b] = true := by decide
theorem ord_ok3 : ∀ a, a < 3 → ∀ b, b < 3 → ∀ c, c < 3 → ordOk 3 [a, b, c] = true := by decide +kernel
theorem ord_ok4 : ∀ a, a < 4 → ∀ b, b < 4 → ∀ c, c < 4 → ∀ d, d < 4 → ordOk 4 [a, b, c, d] = true := by decide +kernel
theorem ord_ok {n : Nat} (h1 : 1 ≤ n) (h4 : n ≤ 4) {os : List Nat} (hl : os.length = n) (hb : ∀ x ∈ os, x < n) (h : ordG n (os.map Int.ofNat) = true) : os.Nodup ∧ setOfO os = 2 ^ n - 1 := by
  suffices hk : ordOk n os = true by
    unfold ordOk at hk
    rw [h] at hk
    simpa using hk
  have : n = 1 ∨ n = 2 ∨ n = 3 ∨ n = 4 := by omega
  rcases this with rfl | rfl | rfl | rfl
  · match os, hl with
    | [a], _ => exact ord_ok1 a (hb a (by simp))
  · match os, hl with
    | [a, b], _ => exact ord_ok2 a (hb a (by simp)) b (hb b (by simp))
  · match os, hl with
    | [a, b, d], _ => exact ord_ok3 a (hb a (by simp)) b (hb b (by simp)) d (hb d (by simp))
  · match os, hl with
    | [a, b, d, e], _ => exact ord_ok4 a (hb a (by simp)) b (hb b (by simp)) d (hb d (by simp)) e (hb e (by simp))
/-- Whole numbers as fractions. -/
def wholes (ys : List Int) : List Rat := ys.map fun y : Int => (y : Rat)
theorem wholes_in {c : List Int} {n : Nat} {os : List Nat} (hv : valC c = true) (hn : plr c = n) (hl : (joinL c os).length = n) : ccB c ((wholes (joinL c os)).map pr) = true ↔ InC c n (payR (joinL c os)) := by
  have hcb := (valC_iff.1 hv).2.2
  have hs : ∀ q ∈ wholes (joinL c os), smallQ q := by
    intro q hq
    obtain ⟨y, hy, rfl⟩ := List.mem_map.1 hq
    have := joinL_bd hcb os y hy
    unfold smallQ
    rw [Rat.den_intCast, Rat.num_intCast]
    omega
  rw [ccB_in hv hn (by simp [wholes, hl]) hs]
  have e : (fun i => (wholes (joinL c os)).getD i 0) = payR (joinL c os) := by
    funext i
    unfold wholes payR
    rw [List.getD_eq_getElem?_getD, List.getElem?_map, List.getD_eq_getElem?_getD]
    cases (joinL c os)[i]? <;> simp
  rw [e]

/-- Concave, for every costs. -/
def concA (c : List Int) : Nat × Nat × Nat := if valC c then concL c else (0, 0, 2)
theorem concave2_any (A : Option Addr) (n cap : Nat) (c : List Int) (w : World) (hl : c.length = n) (hn : n ≤ 9223372036854775807) (h : Ints w A c) :
    Calls Try.prog 26 #[.slice A n cap] w fun e w' => e = .returned (.tuple #[.int .i64 ((concA c).1 : Nat), .int .i64 ((concA c).2.1 : Nat), .int .i64 ((concA c).2.2 : Nat)]) ∧ Below w.heap.size w w' := by
  cases hv : valC c
  · refine (gconcave_bad A n cap c w hl hn h hv).mono ?_
    rintro e w' ⟨rfl, hb⟩
    exact ⟨by simp [concA, hv], hb⟩
  · have hlen := (valC_iff.1 hv).1
    obtain ⟨ad, rfl, _, hc⟩ := h.some_ (by omega)
    refine (gconcave_ok ad n cap c w hl hv hc).mono ?_
    rintro e w' ⟨rfl, hb⟩
    exact ⟨by simp [concA, hv, conc3], hb⟩
theorem concA_take (c : List Int) : concA (c.take 18) = concA c := by
  cases hv : valC c
  · simp [concA, hv, valC_take]
  · rw [take18 (by have := (valC_iff.1 hv).1; omega)]
/-- Join, for every costs and order. -/
def joinA (c l : List Int) : List Int := if valC c && ordR (plr c) l then joinZ c l else []
def joinE (c l : List Int) : Int := if valC c && ordR (plr c) l then 0 else 2
theorem join2_any (A1 : Option Addr) (n c1 : Nat) (A2 : Option Addr) (m c2 : Nat) (c l : List Int) (w : World) (hl : (c.take 18).length = n) (hl2 : (l.take 18).length = m) (h : Ints w A1 (c.take 18)) (h2 : Ints w A2 (l.take 18)) :
    Calls Try.prog 28 #[.slice A1 n c1, .slice A2 m c2] w fun e w' => ∃ A' k c', e = .returned (.tuple #[.slice A' k c', .int .i64 (joinE c l)]) ∧ k = (if valC c && ordR (plr c) l then plr c else 0) ∧ Ints w' A' (joinA c l) ∧ Below w.heap.size w w' := by
  have hn : n ≤ 18 := by rw [← hl, List.length_take]; omega
  have hm : m ≤ 18 := by rw [← hl2, List.length_take]; omega
  have hnil : ∀ w' : World, Ints w' none [] := fun w' i v hv => by simp at hv
  cases hv : valC c
  · refine (gjoin_bad A1 n c1 A2 m c2 (c.take 18) (l.take 18) w hl (by omega) hl2 (by omega) h h2 (.inl (by rw [valC_take]; exact hv))).mono ?_
    rintro e w' ⟨rfl, hb⟩
    exact ⟨none, 0, 0, by simp [joinE, hv], by simp, by simp only [joinA, hv]; exact hnil w', hb⟩
  · have hp := valC_pow hv
    have h18 : c.take 18 = c := take18 (by have := (valC_iff.1 hv).1; omega)
    have hot := ord_take hp.2.1 hp.2.2 l
    cases hor : ordR (plr c) l
    · rw [hor] at hot
      refine (gjoin_bad A1 n c1 A2 m c2 (c.take 18) (l.take 18) w hl (by omega) hl2 (by omega) h h2 (.inr ⟨by rw [valC_take]; exact hv, by rw [h18]; exact hot⟩)).mono ?_
      rintro e w' ⟨rfl, hb⟩
      exact ⟨none, 0, 0, by simp [joinE, hv, hor], by simp, by simp only [joinA, hv, hor]; exact hnil w', hb⟩
    · rw [hor] at hot
      have hll : l.length = plr c := by
        have hor' := hor
        unfold ordR at hor'; rw [Bool.and_eq_true, decide_eq_true_eq] at hor'; exact hor'.2
      have hl18 : l.take 18 = l := take18 (by omega)
      obtain ⟨ad1, rfl, _, _⟩ := h.some_ (by rw [h18, hp.1]; exact Nat.pos_of_neZero _)
      rw [h18] at h hl
      rw [hl18] at hot h2 hl2
      refine (gjoin_ok ad1 n c1 A2 m c2 c l w hl hv hl2 (by omega) h h2 hot).mono ?_
      rintro e w' ⟨g, rfl, _, hB, hb⟩
      refine ⟨some ⟨g, 0, none⟩, plr c, plr c, by simp [joinE, hv, hor], by simp, ?_, hb⟩
      have e : joinA c l = joinZ c l := by simp [joinA, hv, hor]
      rw [e]
      exact Blk.ints hB
/-- Where costs are concave: what Join answers is in the core. -/
theorem joinA_core {c l : List Int} (hv : valC c = true) (hc : Conc c) (ho : ordR (plr c) l = true) : (joinA c l).length = plr c ∧ ccB c ((wholes (joinA c l)).map pr) = true ∧ ∀ y ∈ joinA c l, -1000 ≤ y ∧ y ≤ 1000 := by
  have hp := valC_pow hv
  have hcb := (valC_iff.1 hv).2.2
  obtain ⟨os, e1, hb, hl⟩ := ordR_nats ho
  have e2 : joinA c l = joinL c os := by
    unfold joinA joinZ
    rw [hv, ho]
    simp only [Bool.and_self, if_true]
    rw [toNat_of os e1]
  have hg : ordG (plr c) (os.map Int.ofNat) = true := by rw [ordG_eq hp.2.1 hp.2.2, ← e1]; exact ho
  obtain ⟨hd, hs⟩ := ord_ok hp.2.1 hp.2.2 hl hb hg
  have hjl : (joinL c os).length = plr c := by
    have := (joinP_bd c (plr c) os hb).2
    unfold joinP at this
    unfold joinL
    rw [hl]; exact this
  have h0 : c.getD 0 0 = 0 := by
    have h0 := (valC_iff.1 hv).2.1
    have : c.getD 0 0 = c.getD 0 1 := by rw [List.getD_eq_getElem?_getD, List.getD_eq_getElem?_getD, List.getElem?_eq_getElem (by have := (valC_iff.1 hv).1; omega)]; rfl
    omega
  rw [e2]
  exact ⟨hjl, (wholes_in hv rfl hjl).2 (joinL_core hp.1 hc h0 hd hb hl hs), joinL_bd hcb os⟩
theorem shap_cc {c : List Int} (hv : valC c = true) (hc : Conc c) : ccB c ((shapL c (plr c)).map pr) = true ∧ (coreF c).isSome = true := by
  have hp := valC_pow hv
  have hcb := (valC_iff.1 hv).2.2
  have h0 : c.getD 0 0 = 0 := by
    have h0 := (valC_iff.1 hv).2.1
    have : c.getD 0 0 = c.getD 0 1 := by rw [List.getD_eq_getElem?_getD, List.getD_eq_getElem?_getD, List.getElem?_eq_getElem (by have := (valC_iff.1 hv).1; omega)]; rfl
    omega
  have h := shap_core hp.2.1 hp.2.2 hp.1 hc h0
  have hsl : (shapL c (plr c)).length = plr c := by simp [shapL, sumsL, addAll_length]
  exact ⟨(ccB_in hv rfl hsl (shapL_small hcb hp.2.2)).2 h, (core_iff hv).2 ⟨_, h⟩⟩

/- The Shapley payments: who changes no cost pays nothing, who raise all costs alike pay alike, sums add. Plain Lean. -/

/-- Some set's cost is changed by player i, among the first k sets. -/
def raisesTo (c : List Int) (i k : Nat) : Bool := (List.range k).any fun s => decide (c.getD (s ||| 2 ^ i) 0 ≠ c.getD s 0)
theorem raisesTo_succ (c : List Int) (i k : Nat) : raisesTo c i (k + 1) = (raisesTo c i k || decide (c.getD (k ||| 2 ^ i) 0 ≠ c.getD k 0)) := by
  simp [raisesTo, List.range_succ]
def alikeAt (c : List Int) (i j s : Nat) : Bool := s.testBit i || (s.testBit j || decide (c.getD (s ||| 2 ^ i) 0 = c.getD (s ||| 2 ^ j) 0))
def alikeTo (c : List Int) (i j k : Nat) : Bool := (List.range k).all fun s => alikeAt c i j s
theorem alikeTo_succ (c : List Int) (i j k : Nat) : alikeTo c i j (k + 1) = (alikeTo c i j k && alikeAt c i j k) := by
  simp [alikeTo, List.range_succ]

theorem null1_0 (c0 c1 : Int) (h : raisesTo [c0, c1] 0 2 = false) : (shapL [c0, c1] 1).getD 0 0 = 0 := by
  have h : c1 = c0 := by
    simpa [raisesTo, List.range_succ] using h
  unfold shapL
  rw [sums1, F1]
  simp only [List.map_cons, List.map_nil, List.getD_cons_zero]
  have e : ∀ (s F : Int), s = 0 → Rat.divInt s F = 0 := fun s F h => by rw [h, Rat.zero_divInt]
  exact e _ _ (by omega)
theorem null2_0 (c0 c1 c2 c3 : Int) (h : raisesTo [c0, c1, c2, c3] 0 4 = false) : (shapL [c0, c1, c2, c3] 2).getD 0 0 = 0 := by
  have h : c1 = c0 ∧ c3 = c2 := by
    simpa [raisesTo, List.range_succ] using h
  unfold shapL
  rw [sums2, F2]
  simp only [List.map_cons, List.map_nil, List.getD_cons_zero]
  have e : ∀ (s F : Int), s = 0 → Rat.divInt s F = 0 := fun s F h => by rw [h, Rat.zero_divInt]
  exact e _ _ (by omega)
theorem null2_1 (c0 c1 c2 c3 : Int) (h : raisesTo [c0, c1, c2, c3] 1 4 = false) : (shapL [c0, c1, c2, c3] 2).getD 1 0 = 0 := by
  have h : c2 = c0 ∧ c3 = c1 := by
    simpa [raisesTo, List.range_succ] using h
  unfold shapL
  rw [sums2, F2]
  simp only [List.map_cons, List.map_nil, List.getD_cons_zero, List.getD_cons_succ]
  have e : ∀ (s F : Int), s = 0 → Rat.divInt s F = 0 := fun s F h => by rw [h, Rat.zero_divInt]
  exact e _ _ (by omega)
theorem sym2_1_0 (c0 c1 c2 c3 : Int) (h : alikeTo [c0, c1, c2, c3] 1 0 4 = true) : (shapL [c0, c1, c2, c3] 2).getD 1 0 = (shapL [c0, c1, c2, c3] 2).getD 0 0 := by
  have h : c2 = c1 := by
    simpa [alikeTo, alikeAt, List.range_succ, Nat.testBit_eq_decide_div_mod_eq] using h
  unfold shapL
  rw [sums2, F2]
  simp only [List.map_cons, List.map_nil, List.getD_cons_zero, List.getD_cons_succ]
  have e : ∀ (s t F : Int), s = t → Rat.divInt s F = Rat.divInt t F := fun s t F h => by rw [h]
  exact e _ _ _ (by omega)
theorem null3_0 (c0 c1 c2 c3 c4 c5 c6 c7 : Int) (h : raisesTo [c0, c1, c2, c3, c4, c5, c6, c7] 0 8 = false) : (shapL [c0, c1, c2, c3, c4, c5, c6, c7] 3).getD 0 0 = 0 := by
  have h : c1 = c0 ∧ c3 = c2 ∧ c5 = c4 ∧ c7 = c6 := by
    simpa [raisesTo, List.range_succ] using h
  unfold shapL
  rw [sums3, F3]
  simp only [List.map_cons, List.map_nil, List.getD_cons_zero]
  have e : ∀ (s F : Int), s = 0 → Rat.divInt s F = 0 := fun s F h => by rw [h, Rat.zero_divInt]
  exact e _ _ (by omega)
theorem null3_1 (c0 c1 c2 c3 c4 c5 c6 c7 : Int) (h : raisesTo [c0, c1, c2, c3, c4, c5, c6, c7] 1 8 = false) : (shapL [c0, c1, c2, c3, c4, c5, c6, c7] 3).getD 1 0 = 0 := by
  have h : c2 = c0 ∧ c3 = c1 ∧ c6 = c4 ∧ c7 = c5 := by
    simpa [raisesTo, List.range_succ] using h
  unfold shapL
  rw [sums3, F3]
  simp only [List.map_cons, List.map_nil, List.getD_cons_zero, List.getD_cons_succ]
  have e : ∀ (s F : Int), s = 0 → Rat.divInt s F = 0 := fun s F h => by rw [h, Rat.zero_divInt]
  exact e _ _ (by omega)
theorem null3_2 (c0 c1 c2 c3 c4 c5 c6 c7 : Int) (h : raisesTo [c0, c1, c2, c3, c4, c5, c6, c7] 2 8 = false) : (shapL [c0, c1, c2, c3, c4, c5, c6, c7] 3).getD 2 0 = 0 := by
  have h : c4 = c0 ∧ c5 = c1 ∧ c6 = c2 ∧ c7 = c3 := by
    simpa [raisesTo, List.range_succ] using h
  unfold shapL
  rw [sums3, F3]
  simp only [List.map_cons, List.map_nil, List.getD_cons_zero, List.getD_cons_succ]
  have e : ∀ (s F : Int), s = 0 → Rat.divInt s F = 0 := fun s F h => by rw [h, Rat.zero_divInt]
  exact e _ _ (by omega)
theorem sym3_1_0 (c0 c1 c2 c3 c4 c5 c6 c7 : Int) (h : alikeTo [c0, c1, c2, c3, c4, c5, c6, c7] 1 0 8 = true) : (shapL [c0, c1, c2, c3, c4, c5, c6, c7] 3).getD 1 0 = (shapL [c0, c1, c2, c3, c4, c5, c6, c7] 3).getD 0 0 := by
  have h : c2 = c1 ∧ c6 = c5 := by
    simpa [alikeTo, alikeAt, List.range_succ, Nat.testBit_eq_decide_div_mod_eq] using h
  unfold shapL
  rw [sums3, F3]
  simp only [List.map_cons, List.map_nil, List.getD_cons_zero, List.getD_cons_succ]
  have e : ∀ (s t F : Int), s = t → Rat.divInt s F = Rat.divInt t F := fun s t F h => by rw [h]
  exact e _ _ _ (by omega)
theorem sym3_2_0 (c0 c1 c2 c3 c4 c5 c6 c7 : Int) (h : alikeTo [c0, c1, c2, c3, c4, c5, c6, c7] 2 0 8 = true) : (shapL [c0, c1, c2, c3, c4, c5, c6, c7] 3).getD 2 0 = (shapL [c0, c1, c2, c3, c4, c5, c6, c7] 3).getD 0 0 := by
  have h : c4 = c1 ∧ c6 = c3 := by
    simpa [alikeTo, alikeAt, List.range_succ, Nat.testBit_eq_decide_div_mod_eq] using h
  unfold shapL
  rw [sums3, F3]
  simp only [List.map_cons, List.map_nil, List.getD_cons_zero, List.getD_cons_succ]
  have e : ∀ (s t F : Int), s = t → Rat.divInt s F = Rat.divInt t F := fun s t F h => by rw [h]
  exact e _ _ _ (by omega)
theorem sym3_2_1 (c0 c1 c2 c3 c4 c5 c6 c7 : Int) (h : alikeTo [c0, c1, c2, c3, c4, c5, c6, c7] 2 1 8 = true) : (shapL [c0, c1, c2, c3, c4, c5, c6, c7] 3).getD 2 0 = (shapL [c0, c1, c2, c3, c4, c5, c6, c7] 3).getD 1 0 := by
  have h : c4 = c2 ∧ c5 = c3 := by
    simpa [alikeTo, alikeAt, List.range_succ, Nat.testBit_eq_decide_div_mod_eq] using h
  unfold shapL
  rw [sums3, F3]
  simp only [List.map_cons, List.map_nil, List.getD_cons_zero, List.getD_cons_succ]
  have e : ∀ (s t F : Int), s = t → Rat.divInt s F = Rat.divInt t F := fun s t F h => by rw [h]
  exact e _ _ _ (by omega)
theorem null4_0 (c0 c1 c2 c3 c4 c5 c6 c7 c8 c9 c10 c11 c12 c13 c14 c15 : Int) (h : raisesTo [c0, c1, c2, c3, c4, c5, c6, c7, c8, c9, c10, c11, c12, c13, c14, c15] 0 16 = false) : (shapL [c0, c1, c2, c3, c4, c5, c6, c7, c8, c9, c10, c11, c12, c13, c14, c15] 4).getD 0 0 = 0 := by
  have h : c1 = c0 ∧ c3 = c2 ∧ c5 = c4 ∧ c7 = c6 ∧ c9 = c8 ∧ c11 = c10 ∧ c13 = c12 ∧ c15 = c14 := by
    simpa [raisesTo, List.range_succ] using h
  unfold shapL
  rw [sums4, F4]
  simp only [List.map_cons, List.map_nil, List.getD_cons_zero]
  have e : ∀ (s F : Int), s = 0 → Rat.divInt s F = 0 := fun s F h => by rw [h, Rat.zero_divInt]
  exact e _ _ (by omega)
theorem null4_1 (c0 c1 c2 c3 c4 c5 c6 c7 c8 c9 c10 c11 c12 c13 c14 c15 : Int) (h : raisesTo [c0, c1, c2, c3, c4, c5, c6, c7, c8, c9, c10, c11, c12, c13, c14, c15] 1 16 = false) : (shapL [c0, c1, c2, c3, c4, c5, c6, c7, c8, c9, c10, c11, c12, c13, c14, c15] 4).getD 1 0 = 0 := by
  have h : c2 = c0 ∧ c3 = c1 ∧ c6 = c4 ∧ c7 = c5 ∧ c10 = c8 ∧ c11 = c9 ∧ c14 = c12 ∧ c15 = c13 := by
    simpa [raisesTo, List.range_succ] using h
  unfold shapL
  rw [sums4, F4]
  simp only [List.map_cons, List.map_nil, List.getD_cons_zero, List.getD_cons_succ]
  have e : ∀ (s F : Int), s = 0 → Rat.divInt s F = 0 := fun s F h => by rw [h, Rat.zero_divInt]
  exact e _ _ (by omega)
theorem null4_2 (c0 c1 c2 c3 c4 c5 c6 c7 c8 c9 c10 c11 c12 c13 c14 c15 : Int) (h : raisesTo [c0, c1, c2, c3, c4, c5, c6, c7, c8, c9, c10, c11, c12, c13, c14, c15] 2 16 = false) : (shapL [c0, c1, c2, c3, c4, c5, c6, c7, c8, c9, c10, c11, c12, c13, c14, c15] 4).getD 2 0 = 0 := by
  have h : c4 = c0 ∧ c5 = c1 ∧ c6 = c2 ∧ c7 = c3 ∧ c12 = c8 ∧ c13 = c9 ∧ c14 = c10 ∧ c15 = c11 := by
    simpa [raisesTo, List.range_succ] using h
  unfold shapL
  rw [sums4, F4]
  simp only [List.map_cons, List.map_nil, List.getD_cons_zero, List.getD_cons_succ]
  have e : ∀ (s F : Int), s = 0 → Rat.divInt s F = 0 := fun s F h => by rw [h, Rat.zero_divInt]
  exact e _ _ (by omega)
theorem null4_3 (c0 c1 c2 c3 c4 c5 c6 c7 c8 c9 c10 c11 c12 c13 c14 c15 : Int) (h : raisesTo [c0, c1, c2, c3, c4, c5, c6, c7, c8, c9, c10, c11, c12, c13, c14, c15] 3 16 = false) : (shapL [c0, c1, c2, c3, c4, c5, c6, c7, c8, c9, c10, c11, c12, c13, c14, c15] 4).getD 3 0 = 0 := by
  have h : c8 = c0 ∧ c9 = c1 ∧ c10 = c2 ∧ c11 = c3 ∧ c12 = c4 ∧ c13 = c5 ∧ c14 = c6 ∧ c15 = c7 := by
    simpa [raisesTo, List.range_succ] using h
  unfold shapL
  rw [sums4, F4]
  simp only [List.map_cons, List.map_nil, List.getD_cons_zero, List.getD_cons_succ]
  have e : ∀ (s F : Int), s = 0 → Rat.divInt s F = 0 := fun s F h => by rw [h, Rat.zero_divInt]
  exact e _ _ (by omega)
theorem sym4_1_0 (c0 c1 c2 c3 c4 c5 c6 c7 c8 c9 c10 c11 c12 c13 c14 c15 : Int) (h : alikeTo [c0, c1, c2, c3, c4, c5, c6, c7, c8, c9, c10, c11, c12, c13, c14, c15] 1 0 16 = true) : (shapL [c0, c1, c2, c3, c4, c5, c6, c7, c8, c9, c10, c11, c12, c13, c14, c15] 4).getD 1 0 = (shapL [c0, c1, c2, c3, c4, c5, c6, c7, c8, c9, c10, c11, c12, c13, c14, c15] 4).getD 0 0 := by
  have h : c2 = c1 ∧ c6 = c5 ∧ c10 = c9 ∧ c14 = c13 := by
    simpa [alikeTo, alikeAt, List.range_succ, Nat.testBit_eq_decide_div_mod_eq] using h
  unfold shapL
  rw [sums4, F4]
  simp only [List.map_cons, List.map_nil, List.getD_cons_zero, List.getD_cons_succ]
  have e : ∀ (s t F : Int), s = t → Rat.divInt s F = Rat.divInt t F := fun s t F h => by rw [h]
  exact e _ _ _ (by omega)
theorem sym4_2_0 (c0 c1 c2 c3 c4 c5 c6 c7 c8 c9 c10 c11 c12 c13 c14 c15 : Int) (h : alikeTo [c0, c1, c2, c3, c4, c5, c6, c7, c8, c9, c10, c11, c12, c13, c14, c15] 2 0 16 = true) : (shapL [c0, c1, c2, c3, c4, c5, c6, c7, c8, c9, c10, c11, c12, c13, c14, c15] 4).getD 2 0 = (shapL [c0, c1, c2, c3, c4, c5, c6, c7, c8, c9, c10, c11, c12, c13, c14, c15] 4).getD 0 0 := by
  have h : c4 = c1 ∧ c6 = c3 ∧ c12 = c9 ∧ c14 = c11 := by
    simpa [alikeTo, alikeAt, List.range_succ, Nat.testBit_eq_decide_div_mod_eq] using h
  unfold shapL
  rw [sums4, F4]
  simp only [List.map_cons, List.map_nil, List.getD_cons_zero, List.getD_cons_succ]
  have e : ∀ (s t F : Int), s = t → Rat.divInt s F = Rat.divInt t F := fun s t F h => by rw [h]
  exact e _ _ _ (by omega)
theorem sym4_2_1 (c0 c1 c2 c3 c4 c5 c6 c7 c8 c9 c10 c11 c12 c13 c14 c15 : Int) (h : alikeTo [c0, c1, c2, c3, c4, c5, c6, c7, c8, c9, c10, c11, c12, c13, c14, c15] 2 1 16 = true) : (shapL [c0, c1, c2, c3, c4, c5, c6, c7, c8, c9, c10, c11, c12, c13, c14, c15] 4).getD 2 0 = (shapL [c0, c1, c2, c3, c4, c5, c6, c7, c8, c9, c10, c11, c12, c13, c14, c15] 4).getD 1 0 := by
  have h : c4 = c2 ∧ c5 = c3 ∧ c12 = c10 ∧ c13 = c11 := by
    simpa [alikeTo, alikeAt, List.range_succ, Nat.testBit_eq_decide_div_mod_eq] using h
  unfold shapL
  rw [sums4, F4]
  simp only [List.map_cons, List.map_nil, List.getD_cons_zero, List.getD_cons_succ]
  have e : ∀ (s t F : Int), s = t → Rat.divInt s F = Rat.divInt t F := fun s t F h => by rw [h]
  exact e _ _ _ (by omega)
theorem sym4_3_0 (c0 c1 c2 c3 c4 c5 c6 c7 c8 c9 c10 c11 c12 c13 c14 c15 : Int) (h : alikeTo [c0, c1, c2, c3, c4, c5, c6, c7, c8, c9, c10, c11, c12, c13, c14, c15] 3 0 16 = true) : (shapL [c0, c1, c2, c3, c4, c5, c6, c7, c8, c9, c10, c11, c12, c13, c14, c15] 4).getD 3 0 = (shapL [c0, c1, c2, c3, c4, c5, c6, c7, c8, c9, c10, c11, c12, c13, c14, c15] 4).getD 0 0 := by
  have h : c8 = c1 ∧ c10 = c3 ∧ c12 = c5 ∧ c14 = c7 := by
    simpa [alikeTo, alikeAt, List.range_succ, Nat.testBit_eq_decide_div_mod_eq] using h
  unfold shapL
  rw [sums4, F4]
  simp only [List.map_cons, List.map_nil, List.getD_cons_zero, List.getD_cons_succ]
  have e : ∀ (s t F : Int), s = t → Rat.divInt s F = Rat.divInt t F := fun s t F h => by rw [h]
  exact e _ _ _ (by omega)
theorem sym4_3_1 (c0 c1 c2 c3 c4 c5 c6 c7 c8 c9 c10 c11 c12 c13 c14 c15 : Int) (h : alikeTo [c0, c1, c2, c3, c4, c5, c6, c7, c8, c9, c10, c11, c12, c13, c14, c15] 3 1 16 = true) : (shapL [c0, c1, c2, c3, c4, c5, c6, c7, c8, c9, c10, c11, c12, c13, c14, c15] 4).getD 3 0 = (shapL [c0, c1, c2, c3, c4, c5, c6, c7, c8, c9, c10, c11, c12, c13, c14, c15] 4).getD 1 0 := by
  have h : c8 = c2 ∧ c9 = c3 ∧ c12 = c6 ∧ c13 = c7 := by
    simpa [alikeTo, alikeAt, List.range_succ, Nat.testBit_eq_decide_div_mod_eq] using h
  unfold shapL
  rw [sums4, F4]
  simp only [List.map_cons, List.map_nil, List.getD_cons_zero, List.getD_cons_succ]
  have e : ∀ (s t F : Int), s = t → Rat.divInt s F = Rat.divInt t F := fun s t F h => by rw [h]
  exact e _ _ _ (by omega)
theorem sym4_3_2 (c0 c1 c2 c3 c4 c5 c6 c7 c8 c9 c10 c11 c12 c13 c14 c15 : Int) (h : alikeTo [c0, c1, c2, c3, c4, c5, c6, c7, c8, c9, c10, c11, c12, c13, c14, c15] 3 2 16 = true) : (shapL [c0, c1, c2, c3, c4, c5, c6, c7, c8, c9, c10, c11, c12, c13, c14, c15] 4).getD 3 0 = (shapL [c0, c1, c2, c3, c4, c5, c6, c7, c8, c9, c10, c11, c12, c13, c14, c15] 4).getD 2 0 := by
  have h : c8 = c4 ∧ c9 = c5 ∧ c10 = c6 ∧ c11 = c7 := by
    simpa [alikeTo, alikeAt, List.range_succ, Nat.testBit_eq_decide_div_mod_eq] using h
  unfold shapL
  rw [sums4, F4]
  simp only [List.map_cons, List.map_nil, List.getD_cons_zero, List.getD_cons_succ]
  have e : ∀ (s t F : Int), s = t → Rat.divInt s F = Rat.divInt t F := fun s t F h => by rw [h]
  exact e _ _ _ (by omega)

theorem shap_null {c : List Int} {n i : Nat} (hn : 1 ≤ n ∧ n ≤ 4) (hi : i < n) (hl : c.length = 2 ^ n) (h : raisesTo c i (2 ^ n) = false) : (shapL c n).getD i 0 = 0 := by
  match n, hn with
  | 1, _ =>
    obtain ⟨c0, c1, rfl⟩ := list2 c hl
    match i, hi with
    | 0, _ => exact null1_0 _ _ h
  | 2, _ =>
    obtain ⟨c0, c1, c2, c3, rfl⟩ := list4 c hl
    match i, hi with
    | 0, _ => exact null2_0 _ _ _ _ h
    | 1, _ => exact null2_1 _ _ _ _ h
  | 3, _ =>
    obtain ⟨c0, c1, c2, c3, c4, c5, c6, c7, rfl⟩ := list8 c hl
    match i, hi with
    | 0, _ => exact null3_0 _ _ _ _ _ _ _ _ h
    | 1, _ => exact null3_1 _ _ _ _ _ _ _ _ h
    | 2, _ => exact null3_2 _ _ _ _ _ _ _ _ h
  | 4, _ =>
    obtain ⟨c0, c1, c2, c3, c4, c5, c6, c7, c8, c9, c10, c11, c12, c13, c14, c15, rfl⟩ := list16 c hl
    match i, hi with
    | 0, _ => exact null4_0 _ _ _ _ _ _ _ _ _ _ _ _ _ _ _ _ h
    | 1, _ => exact null4_1 _ _ _ _ _ _ _ _ _ _ _ _ _ _ _ _ h
    | 2, _ => exact null4_2 _ _ _ _ _ _ _ _ _ _ _ _ _ _ _ _ h
    | 3, _ => exact null4_3 _ _ _ _ _ _ _ _ _ _ _ _ _ _ _ _ h
theorem shap_sym {c : List Int} {n i j : Nat} (hn : 1 ≤ n ∧ n ≤ 4) (hi : i < n) (hj : j < i) (hl : c.length = 2 ^ n) (h : alikeTo c i j (2 ^ n) = true) : (shapL c n).getD i 0 = (shapL c n).getD j 0 := by
  match n, hn with
  | 1, _ =>
    obtain ⟨c0, c1, rfl⟩ := list2 c hl
    match i, j, hi, hj with
    | 0, j, _, hj => omega
  | 2, _ =>
    obtain ⟨c0, c1, c2, c3, rfl⟩ := list4 c hl
    match i, j, hi, hj with
    | 1, 0, _, _ => exact sym2_1_0 _ _ _ _ h
  | 3, _ =>
    obtain ⟨c0, c1, c2, c3, c4, c5, c6, c7, rfl⟩ := list8 c hl
    match i, j, hi, hj with
    | 1, 0, _, _ => exact sym3_1_0 _ _ _ _ _ _ _ _ h
    | 2, 0, _, _ => exact sym3_2_0 _ _ _ _ _ _ _ _ h
    | 2, 1, _, _ => exact sym3_2_1 _ _ _ _ _ _ _ _ h
  | 4, _ =>
    obtain ⟨c0, c1, c2, c3, c4, c5, c6, c7, c8, c9, c10, c11, c12, c13, c14, c15, rfl⟩ := list16 c hl
    match i, j, hi, hj with
    | 1, 0, _, _ => exact sym4_1_0 _ _ _ _ _ _ _ _ _ _ _ _ _ _ _ _ h
    | 2, 0, _, _ => exact sym4_2_0 _ _ _ _ _ _ _ _ _ _ _ _ _ _ _ _ h
    | 2, 1, _, _ => exact sym4_2_1 _ _ _ _ _ _ _ _ _ _ _ _ _ _ _ _ h
    | 3, 0, _, _ => exact sym4_3_0 _ _ _ _ _ _ _ _ _ _ _ _ _ _ _ _ h
    | 3, 1, _, _ => exact sym4_3_1 _ _ _ _ _ _ _ _ _ _ _ _ _ _ _ _ h
    | 3, 2, _, _ => exact sym4_3_2 _ _ _ _ _ _ _ _ _ _ _ _ _ _ _ _ h

set_option maxHeartbeats 4000000 in
/-- The sums add. -/
theorem sums_add {c d e : List Int} {n : Nat} (hn : 1 ≤ n ∧ n ≤ 4) (hc : c.length = 2 ^ n) (hd : d.length = 2 ^ n) (he : e.length = 2 ^ n) (h : ∀ i, i < 2 ^ n → e.getD i 0 = c.getD i 0 + d.getD i 0) :
    ∀ i, i < n → (shapL e n).getD i 0 = (shapL c n).getD i 0 + (shapL d n).getD i 0 := by
  have key : ∀ (s t u F : Int), u = s + t → Rat.divInt u F = Rat.divInt s F + Rat.divInt t F := fun s t u F h => by rw [add_same, h]
  match n, hn with
  | 1, _ =>
    obtain ⟨c0, c1, rfl⟩ := list2 c hc
    obtain ⟨d0, d1, rfl⟩ := list2 d hd
    obtain ⟨e0, e1, rfl⟩ := list2 e he
    have hh : e0 = c0 + d0 ∧ e1 = c1 + d1 := ⟨h 0 (by decide), h 1 (by decide)⟩
    clear h hc hd he
    unfold shapL
    rw [sums1, sums1, sums1, F1]
    intro i hi
    match i, hi with
    | 0, _ =>
      simp only [List.map_cons, List.map_nil, List.getD_cons_zero]
      exact key _ _ _ _ (by omega)
  | 2, _ =>
    obtain ⟨c0, c1, c2, c3, rfl⟩ := list4 c hc
    obtain ⟨d0, d1, d2, d3, rfl⟩ := list4 d hd
    obtain ⟨e0, e1, e2, e3, rfl⟩ := list4 e he
    have hh : e0 = c0 + d0 ∧ e1 = c1 + d1 ∧ e2 = c2 + d2 ∧ e3 = c3 + d3 := ⟨h 0 (by decide), h 1 (by decide), h 2 (by decide), h 3 (by decide)⟩
    clear h hc hd he
    unfold shapL
    rw [sums2, sums2, sums2, F2]
    intro i hi
    match i, hi with
    | 0, _ =>
      simp only [List.map_cons, List.map_nil, List.getD_cons_zero]
      exact key _ _ _ _ (by omega)
    | 1, _ =>
      simp only [List.map_cons, List.map_nil, List.getD_cons_zero, List.getD_cons_succ]
      exact key _ _ _ _ (by omega)
  | 3, _ =>
    obtain ⟨c0, c1, c2, c3, c4, c5, c6, c7, rfl⟩ := list8 c hc
    obtain ⟨d0, d1, d2, d3, d4, d5, d6, d7, rfl⟩ := list8 d hd
    obtain ⟨e0, e1, e2, e3, e4, e5, e6, e7, rfl⟩ := list8 e he
    have hh : e0 = c0 + d0 ∧ e1 = c1 + d1 ∧ e2 = c2 + d2 ∧ e3 = c3 + d3 ∧ e4 = c4 + d4 ∧ e5 = c5 + d5 ∧ e6 = c6 + d6 ∧ e7 = c7 + d7 := ⟨h 0 (by decide), h 1 (by decide), h 2 (by decide), h 3 (by decide), h 4 (by decide), h 5 (by decide), h 6 (by decide), h 7 (by decide)⟩
    clear h hc hd he
    unfold shapL
    rw [sums3, sums3, sums3, F3]
    intro i hi
    match i, hi with
    | 0, _ =>
      simp only [List.map_cons, List.map_nil, List.getD_cons_zero]
      exact key _ _ _ _ (by omega)
    | 1, _ =>
      simp only [List.map_cons, List.map_nil, List.getD_cons_zero, List.getD_cons_succ]
      exact key _ _ _ _ (by omega)
    | 2, _ =>
      simp only [List.map_cons, List.map_nil, List.getD_cons_zero, List.getD_cons_succ]
      exact key _ _ _ _ (by omega)
  | 4, _ =>
    obtain ⟨c0, c1, c2, c3, c4, c5, c6, c7, c8, c9, c10, c11, c12, c13, c14, c15, rfl⟩ := list16 c hc
    obtain ⟨d0, d1, d2, d3, d4, d5, d6, d7, d8, d9, d10, d11, d12, d13, d14, d15, rfl⟩ := list16 d hd
    obtain ⟨e0, e1, e2, e3, e4, e5, e6, e7, e8, e9, e10, e11, e12, e13, e14, e15, rfl⟩ := list16 e he
    have hh : e0 = c0 + d0 ∧ e1 = c1 + d1 ∧ e2 = c2 + d2 ∧ e3 = c3 + d3 ∧ e4 = c4 + d4 ∧ e5 = c5 + d5 ∧ e6 = c6 + d6 ∧ e7 = c7 + d7 ∧ e8 = c8 + d8 ∧ e9 = c9 + d9 ∧ e10 = c10 + d10 ∧ e11 = c11 + d11 ∧ e12 = c12 + d12 ∧ e13 = c13 + d13 ∧ e14 = c14 + d14 ∧ e15 = c15 + d15 := ⟨h 0 (by decide), h 1 (by decide), h 2 (by decide), h 3 (by decide), h 4 (by decide), h 5 (by decide), h 6 (by decide), h 7 (by decide), h 8 (by decide), h 9 (by decide), h 10 (by decide), h 11 (by decide), h 12 (by decide), h 13 (by decide), h 14 (by decide), h 15 (by decide)⟩
    clear h hc hd he
    unfold shapL
    rw [sums4, sums4, sums4, F4]
    intro i hi
    match i, hi with
    | 0, _ =>
      simp only [List.map_cons, List.map_nil, List.getD_cons_zero]
      exact key _ _ _ _ (by omega)
    | 1, _ =>
      simp only [List.map_cons, List.map_nil, List.getD_cons_zero, List.getD_cons_succ]
      exact key _ _ _ _ (by omega)
    | 2, _ =>
      simp only [List.map_cons, List.map_nil, List.getD_cons_zero, List.getD_cons_succ]
      exact key _ _ _ _ (by omega)
    | 3, _ =>
      simp only [List.map_cons, List.map_nil, List.getD_cons_zero, List.getD_cons_succ]
      exact key _ _ _ _ (by omega)

/-- The sums of two games, wrapped, of the first k sets. -/
def sumTo (c d : List Int) (k : Nat) : List Int := (List.range k).map fun i => IntKind.i64.wrap (c.getD i 0 + d.getD i 0)
theorem sumTo_length (c d : List Int) (k : Nat) : (sumTo c d k).length = k := by simp [sumTo]
theorem sumTo_succ {c d : List Int} {k : Nat} {x y : Int} (hx : c[k]? = some x) (hy : d[k]? = some y) : sumTo c d (k + 1) = sumTo c d k ++ [IntKind.i64.wrap (x + y)] := by
  simp [sumTo, List.range_succ, List.getD_eq_getElem?_getD, hx, hy]
theorem sumTo_get {c d : List Int} {k i : Nat} (h : i < k) : (sumTo c d k).getD i 0 = IntKind.i64.wrap (c.getD i 0 + d.getD i 0) := by
  rw [List.getD_eq_getElem?_getD]
  simp [sumTo, h]
theorem plr_len {a b : List Int} (ha : valC a = true) (hb : valC b = true) (h : a.length = b.length) : plr a = plr b := by
  unfold plr
  rw [if_pos ha, if_pos hb, h]
theorem shap_add {c d : List Int} {n N : Nat} (hn : 1 ≤ n ∧ n ≤ 4) (hN : N = 2 ^ n) (hc : c.length = N) (hd : d.length = N) (hvc : valC c = true) (hvd : valC d = true) :
    ∀ i, i < n → (shapL (sumTo c d N) n).getD i 0 = (shapL c n).getD i 0 + (shapL d n).getD i 0 := by
  refine sums_add hn (by rw [hc, hN]) (by rw [hd, hN]) (by rw [sumTo_length, hN]) fun i hi => ?_
  rw [sumTo_get (by rw [hN]; exact hi)]
  have h1 := costs_get (valC_iff.1 hvc).2.2 i
  have h2 := costs_get (valC_iff.1 hvd).2.2 i
  exact IntWalk.i64_in _ (by omega)

/- All costs multiplied by a number: plain Lean. -/

def timesL (c : List Int) (k : Nat) : List Int := c.map (· * (k : Int))
theorem timesL_length (c : List Int) (k : Nat) : (timesL c k).length = c.length := by simp [timesL]
theorem timesL_get (c : List Int) (k i : Nat) : (timesL c k).getD i 0 = c.getD i 0 * (k : Int) := by
  unfold timesL
  rw [List.getD_eq_getElem?_getD, List.getElem?_map, List.getD_eq_getElem?_getD]
  cases c[i]? <;> simp
theorem shap_times {c : List Int} {n : Nat} (hn : 1 ≤ n ∧ n ≤ 4) (hc : c.length = 2 ^ n) : ∀ k, ∀ i, i < n → (shapL (timesL c (k + 1)) n).getD i 0 = (shapL c n).getD i 0 * (((k + 1 : Nat) : Int) : Rat) := by
  intro k
  induction k with
  | zero =>
    intro i _
    have e : timesL c 1 = c := by unfold timesL; simp
    rw [e]
    have : (((0 + 1 : Nat) : Int) : Rat) = 1 := rfl
    rw [this]; grind
  | succ k ih =>
    intro i hi
    rw [sums_add (c := timesL c (k + 1)) (d := c) hn (by rw [timesL_length]; exact hc) hc (by rw [timesL_length]; exact hc) (fun s _ => by
      rw [timesL_get, timesL_get, show ((k + 1 + 1 : Nat) : Int) = ((k + 1 : Nat) : Int) + 1 from by omega, Int.mul_add, Int.mul_one]) i hi, ih i hi]
    rw [show ((k + 1 + 1 : Nat) : Int) = ((k + 1 : Nat) : Int) + 1 from by omega, Rat.intCast_add]
    have : ((1 : Int) : Rat) = 1 := rfl
    rw [this]; grind
theorem dot_scale (n : Nat) (t : Rat) (d : Nat → Rat) (s : Nat) : dotS n (fun i => t * d i) s = t * dotS n d s := by
  unfold dotS
  rw [← sumQ_mul]
  exact sumQ_congr fun i _ => by grind
theorem cq_times (c : List Int) (k s : Nat) : cq (timesL c k) s = ((k : Int) : Rat) * cq c s := by
  unfold cq
  rw [timesL_get, Rat.intCast_mul, Rat.mul_comm]
theorem times_in {c : List Int} {n k : Nat} (hk : 1 ≤ k) : (∃ x, InC (timesL c k) n x) ↔ ∃ x, InC c n x := by
  have hk0 : (0 : Rat) < ((k : Int) : Rat) := (Rat.intCast_lt_intCast (a := 0) (b := (k : Int))).2 (by omega)
  have hki : ((k : Int) : Rat)⁻¹ * ((k : Int) : Rat) = 1 := by
    rw [Rat.mul_comm]; exact Rat.mul_inv_cancel _ (by grind)
  have hi0 := Rat.le_of_lt (Rat.inv_pos.2 hk0)
  constructor
  · rintro ⟨x, h1, h2⟩
    refine ⟨fun i => ((k : Int) : Rat)⁻¹ * x i, ?_, fun s hs => ?_⟩
    · rw [dot_scale, h1, cq_times, ← Rat.mul_assoc, hki, Rat.one_mul]
    · have h3 := Rat.mul_le_mul_of_nonneg_left (h2 s hs) hi0
      rw [cq_times, ← Rat.mul_assoc, hki, Rat.one_mul] at h3
      rw [dot_scale]; exact h3
  · rintro ⟨x, h1, h2⟩
    refine ⟨fun i => ((k : Int) : Rat) * x i, ?_, fun s hs => ?_⟩
    · rw [dot_scale, h1, cq_times]
    · rw [dot_scale, cq_times]
      exact Rat.mul_le_mul_of_nonneg_left (h2 s hs) (Rat.le_of_lt hk0)
theorem bool_of_iff {a b : Bool} (h : a = true ↔ b = true) : a = b := by cases a <;> cases b <;> simp_all
theorem times_core {c : List Int} {k : Nat} (hk : 1 ≤ k) (hv : valC c = true) (hv2 : valC (timesL c k) = true) : coE (timesL c k) = coE c := by
  have hpl : plr (timesL c k) = plr c := plr_len hv2 hv (timesL_length c k)
  have e : (coreF (timesL c k)).isSome = (coreF c).isSome := bool_of_iff (by
    rw [core_iff hv2, core_iff hv, hpl]; exact times_in hk)
  unfold coE
  rw [hv, hv2, e]
theorem times_conc {c : List Int} {k : Nat} (hk : 1 ≤ k) (hv : valC c = true) (hv2 : valC (timesL c k) = true) : concA (timesL c k) = concA c := by
  have e : ∀ a b, badB (timesL c k) a b = badB c a b := by
    intro a b
    unfold badB
    rw [timesL_get, timesL_get, timesL_get, timesL_get, ← Int.add_mul, ← Int.add_mul, decide_eq_decide]
    exact Int.mul_lt_mul_right (by omega)
  unfold concA concL
  rw [hv, hv2, timesL_length]
  simp only [e]
/-- The costs while they are multiplied. -/
def timesTo (c : List Int) (k j : Nat) : List Int := (c.take j).map (· * (k : Int)) ++ c.drop j
theorem timesTo_length (c : List Int) (k j : Nat) : (timesTo c k j).length = c.length := by simp [timesTo]; omega
theorem timesTo_get {c : List Int} {k j : Nat} {x : Int} (h : c[j]? = some x) : (timesTo c k j)[j]? = some x := by
  have hj : j < c.length := List.getElem?_eq_some_iff.1 h |>.1
  unfold timesTo
  rw [List.getElem?_append_right (by simp; omega)]
  simp only [List.length_map, List.length_take]
  rw [show min j c.length = j from by omega, Nat.sub_self, List.getElem?_drop, Nat.add_zero, h]
theorem timesTo_succ {c : List Int} {k j : Nat} {x : Int} (h : c[j]? = some x) : (timesTo c k j).set j (x * (k : Int)) = timesTo c k (j + 1) := by
  have hj : j < c.length := List.getElem?_eq_some_iff.1 h |>.1
  apply List.ext_getElem?
  intro i
  rw [List.getElem?_set]
  unfold timesTo
  by_cases e : j = i
  · subst e
    rw [if_pos rfl, if_pos (by simp; omega), List.getElem?_append_left (by simp; omega), List.getElem?_map, List.getElem?_take, if_pos (by omega), h]
    rfl
  · rw [if_neg e]
    by_cases e2 : i < j
    · rw [List.getElem?_append_left (by simp; omega), List.getElem?_append_left (by simp; omega), List.getElem?_map, List.getElem?_map, List.getElem?_take, List.getElem?_take, if_pos e2, if_pos (by omega)]
    · rw [List.getElem?_append_right (by simp; omega), List.getElem?_append_right (by simp; omega)]
      simp only [List.length_map, List.length_take, List.getElem?_drop]
      congr 1
      omega
theorem timesTo_zero (c : List Int) (k : Nat) : timesTo c k 0 = c := by simp [timesTo]
theorem timesTo_all (c : List Int) (k : Nat) : timesTo c k c.length = timesL c k := by simp [timesTo, timesL]

/- Contract: cmp.isNaN of an int. -/

theorem isnan_any (x : Int) (w : World) : Calls Try.prog 113 #[.int .i64 x] w fun e w' => e = .returned (.bool false) ∧ w = w' := by
  have hb : (x != x) = false := by simp
  go_enter Try.func113, Try.ntmps113
  go_wp2_with fail
  go_ret
  exact ⟨rfl, rfl⟩

/- Contracts: cmp.Less and insertionSortOrdered on ints. -/

/-- The entry at j sinks below the greater ones. -/
def sink : Nat → List Int → List Int
  | 0, l => l
  | j + 1, l => if l.getD (j + 1) 0 < l.getD j 0 then sink j ((l.set (j + 1) (l.getD j 0)).set j (l.getD (j + 1) 0)) else l
/-- The first i are sorted. -/
def sortTo (l : List Int) : Nat → List Int
  | 0 => l
  | i + 1 => sink i (sortTo l i)
theorem sink_length (j : Nat) : ∀ l : List Int, (sink j l).length = l.length := by
  induction j with
  | zero => intro l; rfl
  | succ j ih => intro l; simp only [sink]; split; rw [ih]; simp; rfl
theorem sortTo_length (l : List Int) (i : Nat) : (sortTo l i).length = l.length := by
  induction i with
  | zero => rfl
  | succ i ih => simp only [sortTo]; rw [sink_length, ih]

theorem cmpless_any (x y : Int) (w : World) : Calls Try.prog 103 #[.int .i64 x, .int .i64 y] w fun e w' => e = .returned (.bool (decide (x < y))) ∧ w = w' := by
  go_enter Try.func103, Try.ntmps103
  go_wp2_with fail
  refine (isnan_any x _).mono ?_
  rintro e w' ⟨rfl, rfl⟩
  go_wp2_with fail
  go_ret
  exact ⟨rfl, rfl⟩
/-- The block of a slice: its first cells. -/
def PreB (w : World) (g m cp : Nat) (xs : List Int) : Prop := ∃ cur, Blk w g 3 cur ∧ cur.size = cp ∧ cur.toList.take m = xs.map (Value.int .i64)
theorem PreB.lt {w : World} {g m cp : Nat} {xs : List Int} (h : PreB w g m cp xs) : g < w.heap.size := by obtain ⟨cur, h, _⟩ := h; exact h.lt
theorem PreB.ints {w : World} {g m cp : Nat} {xs : List Int} (h : PreB w g m cp xs) : Ints w (some ⟨g, 0, none⟩) xs := by
  obtain ⟨cur, hB, _, ht⟩ := h
  intro i v hv
  rw [← ht] at hv
  have hv' : cur.toList[i]? = some v := by
    rw [List.getElem?_take] at hv
    split at hv
    · exact hv
    · cases hv
  exact hB.at_ i v hv'
theorem PreB.read {w : World} {g m cp : Nat} {xs : List Int} (h : PreB w g m cp xs) {k : Nat} {x : Int} (hx : xs[k]? = some x) : w.cell? ⟨g, k, none⟩ = some (.int .i64 x) := by
  obtain ⟨cur, hB, _, ht⟩ := h
  have hv : (cur.toList.take m)[k]? = some (.int .i64 x) := by rw [ht]; simp [hx]
  rw [List.getElem?_take] at hv
  split at hv
  · rw [hB.cell, ← Array.getElem?_toList]; exact hv
  · cases hv
theorem PreB.frozen {w : World} {g m cp : Nat} {xs : List Int} (h : PreB w g m cp xs) (k : Nat) : w.frozen? ⟨g, k, none⟩ = false := by obtain ⟨cur, hB, _⟩ := h; exact hB.frozen k
theorem PreB.set_ {w : World} {g m cp : Nat} {xs : List Int} (h : PreB w g m cp xs) (k : Nat) (y : Int) : PreB (w.setCell ⟨g, k, none⟩ (.int .i64 y)) g m cp (xs.set k y) := by
  obtain ⟨cur, hB, hs, ht⟩ := h
  refine ⟨_, hB.set_ k _, by simp [hs], ?_⟩
  rw [Array.toList_setIfInBounds, List.take_set, ht, List.map_set]

theorem PreB.drewN {w : World} {g m cp : Nat} {xs : List Int} (h : PreB w g m cp xs) (k : Nat) : PreB (w.drewN k) g m cp xs := h

set_option maxRecDepth 100000 in
set_option maxHeartbeats 1600000 in
theorem isort_any (g cap n : Nat) (l : List Int) (w : World) (hl : l.length = n) (hn : 1 ≤ n ∧ n ≤ 1000) (h : PreB w g n cap l) :
    Calls Try.prog 97 #[.slice (some ⟨g, 0, none⟩) n cap, .int .i64 0, .int .i64 n] w fun e w' => e = .returned (.tuple #[]) ∧ PreB w' g n cap (sortTo l n) ∧ Kept w.heap.size [g] w w' := by
  have H := Lib.hid (And.intro hl h)
  clear hl h
  go_enter Try.func97, Try.ntmps97
  go_wp2_with fail
  go_loopw [6] (fun iv wr => ∃ i : Nat, 1 ≤ i ∧ i ≤ n ∧ iv = .int .i64 i ∧ PreB wr g n cap (sortTo l i) ∧ Kept w.heap.size [g] w wr) (fun iv _ => n - (intOf iv).toNat)
  case atStart => exact ⟨1, by omega, by omega, rfl, H.out.2, Kept.refl _ _ _⟩
  case round =>
    obtain ⟨i, hi1, hi, rfl, hp, hk⟩ := hrel
    have HR := Lib.hid (And.intro hp hk)
    clear hp hk
    by_cases hlt : i < n
    · have l1 : (i : Int) < (n : Int) := by omega
      go_wp2_with fail
      go_loopw [7] (fun jv wr => ∃ (j : Nat) (L : List Int), j ≤ i ∧ jv = .int .i64 j ∧ L.length = n ∧ sink j L = sortTo l (i + 1) ∧ PreB wr g n cap L ∧ Kept w.heap.size [g] w wr) (fun jv _ => (intOf jv).toNat)
      case atStart => exact ⟨i, _, Nat.le_refl _, rfl, by rw [sortTo_length]; exact H.out.1, rfl, HR.out⟩
      case round =>
        obtain ⟨j, L, hj, rfl, hL, hs, hp, hk⟩ := hrel
        have HR2 := Lib.hid (And.intro hs (And.intro hp (And.intro hk hL)))
        clear hs hp hk
        by_cases hj0 : 0 < j
        · obtain ⟨j', rfl⟩ : ∃ j', j = j' + 1 := ⟨j - 1, by omega⟩
          obtain ⟨x, hx⟩ : ∃ x, L[j' + 1]? = some x := ⟨_, List.getElem?_eq_getElem (by omega)⟩
          obtain ⟨y, hy⟩ : ∃ y, L[j']? = some y := ⟨_, List.getElem?_eq_getElem (by omega)⟩
          have e1 := HR2.out.2.1.read hx
          have e2 := HR2.out.2.1.read hy
          have f1 := HR2.out.2.1.frozen (j' + 1)
          have f2 := HR2.out.2.1.frozen j'
          have gx : L.getD (j' + 1) 0 = x := by rw [List.getD_eq_getElem?_getD, hx]; rfl
          have gy : L.getD j' 0 = y := by rw [List.getD_eq_getElem?_getD, hy]; rfl
          have hs2 := HR2.out.1
          simp only [sink] at hs2
          rw [gx, gy] at hs2
          have hset := (HR2.out.2.1.set_ (j' + 1) y).set_ j' x
          have HS := Lib.hid (And.intro hs2 hset)
          have l2 : (0 : Int) < ((j' + 1 : Nat) : Int) := by omega
          have l3 : ((j' + 1 : Nat) : Int) < (n : Int) := by omega
          have l4 : ((j' + 1 : Nat) : Int) - 1 = (j' : Int) := by omega
          have l5 : (j' : Int) < (n : Int) := by omega
          have d0 : decide ((0 : Int) < ((j' + 1 : Nat) : Int)) = true := decide_eq_true l2
          have hq : ∀ w8, Calls Try.prog 103 #[.int .i64 x, .int .i64 y] w8 fun e w' => e = .returned (.bool (decide (x < y))) ∧ w' = w8 := fun w8 => (cmpless_any x y w8).mono fun _ _ ⟨a, b⟩ => ⟨a, b.symm⟩
          have HQ := Lib.hid hq
          clear hx hy gx gy hs2 hset hq hL
          by_cases hxy : x < y
          · have d1 : decide (x < y) = true := decide_eq_true hxy
            rw [d1] at HQ
            have hS2 := HS.out.1
            rw [if_pos hxy] at hS2
            have HS2 := Lib.hid hS2
            clear hS2
            go_wp2_with fail
            go_quiet ((go_at_call 103; exact Calls.quiet_of_same (HQ.out _)))
            go_wp2_with fail
            go_region
            all_goals go_wp2_with fail
            all_goals go_roundw
            case rel => exact ⟨j', _, by omega, by go_num, by simp [HR2.out.2.2.2], HS2.out, HS.out.2.drewN (nq + 1), ((HR2.out.2.2.1.setCell (.inl (by simp)) _).setCell (.inl (by simp)) _).drewN (nq + 1)⟩
            case measure => simp [intOf]
          · have d1 : decide (x < y) = false := decide_eq_false hxy
            rw [d1] at HQ
            have hS2 := HS.out.1
            rw [if_neg hxy] at hS2
            have HS2 := Lib.hid hS2
            clear hS2
            go_wp2_with fail
            go_quiet ((go_at_call 103; exact Calls.quiet_of_same (HQ.out _)))
            go_wp2_with fail
            go_roundw
            case rel => exact ⟨i + 1, by omega, by omega, by go_num, by rw [← HS2.out]; exact HR2.out.2.1.drewN nq, HR2.out.2.2.1.drewN nq⟩
            case measure => simp [intOf]; omega
        · obtain rfl : j = 0 := by omega
          have hS2 := HR2.out.1
          simp only [sink] at hS2
          have HS2 := Lib.hid hS2
          have d0 : decide ((0 : Int) < 0) = false := by decide
          clear hS2
          go_wp2_with fail
          go_quiet (fail)
          go_wp2_with fail
          go_roundw
          case rel => exact ⟨i + 1, by omega, by omega, by go_num, by rw [← HS2.out]; exact HR2.out.2.1.drewN nq, HR2.out.2.2.1.drewN nq⟩
          case measure => simp [intOf]; omega
    · obtain rfl : n = i := by omega
      go_wp2_with fail
      go_end0
      exact ⟨rfl, HR.out⟩
end Go.Proofs.Ytbidboagaoifaaa
