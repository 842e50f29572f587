/- Laws and contracts that the proof of the market rows uses, part 5. -/
import Derived.Test.YtnljnjnmhbkdoaaBaseM4
import Derived.Test.YtnljnjnmhbkdoaaMCompA
import Derived.Test.YtnljnjnmhbkdoaaBaseM2
import Derived.Test.YtnljnjnmhbkdoaaBaseM1
import Derived.Test.YtnljnjnmhbkdoaaBaseM3
import Derived.Deep.DeepCutAuto
namespace Go.Proofs.Ytnljnjnmhbkdoaa
open Go.RowKit

/- Contract: solve of package market. -/

/-- What solve leaves. -/
def SolPost (B : List Int) (V : List (List Int)) (e n k : Nat) (w : World) (x : Ending) (w' : World) : Prop :=
  Below w.heap.size w w' ∧ match solF B V e n k with
    | none => ∃ (A1 : Option Addr) (a1 b1 : Nat) (A2 : Option Addr) (a2 b2 : Nat), x = .returned (.tuple #[.agg #[.slice A1 a1 b1, .slice A2 a2 b2], .bool false])
    | some r => ∃ PB SB, x = .returned (.tuple #[balV (some ⟨PB, 0, none⟩) k k (some ⟨SB, 0, none⟩) n n, .bool true]) ∧ BalMem w.heap.size w' PB SB r
set_option maxRecDepth 100000 in
set_option maxHeartbeats 4000000 in
theorem msolve_any (A : Option Addr) (n c : Nat) (U : Option Addr) (d k e : Nat) (B : List Int) (V : List (List Int)) (w : World) (h : MkIn w A n U k B V) (he : e < 512) :
    Calls Try.prog 61 #[mktV A n c U n d, .int .i64 (e : Int)] w (SolPost B V e n k w) := by
  obtain ⟨w1, hw1⟩ : ∃ w1, w1 = (w.alloc (.cells #[.slice A n c, .slice U n d] 30)).alloc (.cells #[.slice none 0 0, .slice none 0 0] 66) := ⟨_, rfl⟩
  have hb1 : Below w.heap.size w w1 := by rw [hw1]; exact ((Below.refl _ _).alloc (Nat.le_refl _) _).alloc (by simp) _
  have hM1 : Blk w1 w.heap.size 30 #[.slice A n c, .slice U n d] := by rw [hw1]; exact (Blk.new _ _ _ rfl).alloc _
  have hR1 : Blk w1 (w.heap.size + 1) 66 #[.slice none 0 0, .slice none 0 0] := by rw [hw1]; exact Blk.new _ _ _ (by simp)
  have hsz1 : w1.heap.size = w.heap.size + 2 := by rw [hw1]; simp
  obtain ⟨x0, x1, _, _⟩ := hM1.at2
  have h1 := h.below hb1
  have hn := h.hn
  have hk := h.hk
  have H := Lib.hid (And.intro h (And.intro h1 (And.intro hb1 (And.intro hM1 (And.intro hR1 he)))))
  clear h h1 hb1 hM1 hR1 he
  unfold mktV
  go_enter Try.func61, Try.ntmps61
  go_upto_region 1 with fail
  rw [← hw1]
  have HGO : Hid (∀ s : Desc w1, Calls Try.prog 53 #[.agg #[.slice A n c, .slice U n d]] s.val fun e w'' => e = .returned (.int .i64 (k : Int)) ∧ ∃ s' : Desc w1, w'' = s'.val) := Lib.hid fun s => Calls.desc_of (by
    have := mgoods_any A n c U n d B V s.val (H.out.2.1.mkt.below s.below) hn.1
    rw [H.out.1.hg] at this
    exact this)
  have d1 : ∀ s : Desc w1, s.val.cell? ⟨w.heap.size, 0, none⟩ = some (.slice A n c) := fun s => s.cell x0
  have d2 : ∀ s : Desc w1, s.val.cell? ⟨w.heap.size, 1, none⟩ = some (.slice U n d) := fun s => s.cell x1
  clear hw1 x0 x1
  go_cut [6, 7] (fun av bv wx => av = .int .i64 n ∧ bv = .int .i64 k ∧ Below w1.heap.size w1 wx)
  case first =>
    refine wp_region_desc (by kernel_rfl) (by kernel_rfl) ?_
    repeat (go_big_quiet_step (first | (go_at_call 53; exact HGO.out _)))
    refine wpQuiet_nil ?_
    rintro _ ⟨sd, rfl⟩
    have hb2 := sd.below
    generalize sd.val = w2 at hb2 ⊢
    go_wp2_with fail
    go_meet
    case rel => exact ⟨rfl, rfl, hb2⟩
  obtain ⟨w2, rfl⟩ : ∃ w2 : World, w2 = wc := ⟨_, rfl⟩
  obtain ⟨rfl, rfl, hb2⟩ := hcut
  have H2 := Lib.hid hb2
  have hs2 := hb2.size
  clear hb2 d1 d2 HGO
  go_upto_region 2 with fail
  go_cut [8] (fun bv wx => ∃ bb PB SB, bv = .pointer (some ⟨bb, 0, none⟩) ∧ SolMem w wx #[.slice A n c, .slice U n d] #[.slice none 0 0, .slice none 0 0] bb PB SB n k 0 (fun _ => 0))
  case first =>
    have hm1 := make_mfracs k (by omega)
    have hm2 := make_mfracss n (by omega)
    go_region
    all_goals
      go_wp2_with fail
      go_meet
      case rel =>
        refine' ⟨_, _, _, rfl, SolMem.start (bal := ?ba) (pri := ?pr) (sb := ?sb) (hb := below3 _ _ _ _) (bel := H.out.2.2.1.trans (H2.out.mono H.out.2.2.1.size)) (mkb := H.out.2.2.2.1.below H2.out H.out.2.2.2.1.lt) (res := H.out.2.2.2.2.1.below H2.out H.out.2.2.2.2.1.lt) (ne := ?ne)⟩
        case ba => first | exact blk0 _ _ _ _ _ | exact blk1 _ _ _ _ _ | exact blk2 _ _ _ _ _
        case pr => first | exact blk0 _ _ _ _ _ | exact blk1 _ _ _ _ _ | exact blk2 _ _ _ _ _
        case sb => first | exact blk0 _ _ _ _ _ | exact blk1 _ _ _ _ _ | exact blk2 _ _ _ _ _
        case ne => omega
  obtain ⟨w3, rfl⟩ : ∃ w3 : World, w3 = wc := ⟨_, rfl⟩
  obtain ⟨bb, PB, SB, rfl, hm3⟩ := hcut
  have H3 := Lib.hid hm3
  clear hm3
  go_wp2_with fail
  go_loopw [25] (fun iv wx => ∃ (i : Nat) (R : Nat → Nat), i ≤ n ∧ iv = .int .i64 i ∧ SolMem w wx #[.slice A n c, .slice U n d] #[.slice none 0 0, .slice none 0 0] bb PB SB n k i R) (fun iv _ => n - (intOf iv).toNat)
  case atStart => exact ⟨0, fun _ => 0, Nat.zero_le _, rfl, H3.out⟩
  case round =>
    obtain ⟨i, R, hi, rfl, hmem⟩ := hrel
    obtain ⟨wo, rfl⟩ : ∃ wo : World, wo = wr := ⟨_, rfl⟩
    have HM := Lib.hid hmem
    clear hmem
    by_cases hin : i < n
    · -- {{
      have hm1 := make_mfracs k (by omega)
      have hsb := HM.out.sb
      have hsl := hsb.lt
      have hbl := HM.out.bal.lt
      obtain ⟨_, y1, _, _⟩ := HM.out.bal.at2
      have y2 := (Blk.cell hsb i).trans (sbC_get hin)
      rw [if_neg (by omega)] at y2
      have y3 := hsb.frozen i
      clear hsb
      go_upto_region 6 with fail
      go_cut [9] (fun av wx => av = .int .i64 i ∧ Kept wo.heap.size [SB] wo wx ∧ Blk wx SB 63 (sbC n k (i + 1) (upd R i wo.heap.size)) ∧ PrB wx wo.heap.size 77 (zr k 0))
      case first =>
        have hA : Blk ((wo.setCell ⟨SB, i, none⟩ (.slice (some ⟨wo.heap.size, 0, none⟩) k k)).alloc (.cells (prA (List.replicate k (0, 0))) 77)) SB 63 (sbC n k (i + 1) (upd R i wo.heap.size)) := by
          have := HM.out.sb.set_ i (.slice (some ⟨wo.heap.size, 0, none⟩) k k)
          rw [sbC_set] at this
          exact this.alloc _
        have hB : PrB ((wo.setCell ⟨SB, i, none⟩ (.slice (some ⟨wo.heap.size, 0, none⟩) k k)).alloc (.cells (prA (List.replicate k (0, 0))) 77)) wo.heap.size 77 (zr k 0) := by
          rw [zr_zero]
          exact Blk.new _ _ _ (by simp [World.setCell])
        have hC : Kept wo.heap.size [SB] wo ((wo.setCell ⟨SB, i, none⟩ (.slice (some ⟨wo.heap.size, 0, none⟩) k k)).alloc (.cells (prA (List.replicate k (0, 0))) 77)) := ((Kept.refl _ _ _).setCell (.inl (by simp)) _).alloc (by simp [World.setCell]) _
        have HA := Lib.hid (And.intro hC (And.intro hA hB))
        clear hA hB hC
        go_region
        all_goals
          go_wp2_with fail
          go_meet
          case rel => exact ⟨rfl, HA.out.1.drew, HA.out.2.1, HA.out.2.2⟩
      obtain ⟨wq, rfl⟩ : ∃ wq : World, wq = wc := ⟨_, rfl⟩
      obtain ⟨rfl, hkq, hSq, hPq⟩ := hcut
      have hqs := hkq.size
      have HQ := Lib.hid (And.intro hkq (And.intro hSq hPq))
      have hgl := hPq.lt
      clear hkq hSq hPq y1 y2 y3 hm1
      go_wp2_with fail
      go_loopw [35] (fun gv wx => ∃ g : Nat, g ≤ k ∧ gv = .int .i64 g ∧ PrB wx wo.heap.size 77 (zr k g) ∧ Kept wq.heap.size [wo.heap.size] wq wx) (fun gv _ => k - (intOf gv).toNat)
      case atStart => exact ⟨0, Nat.zero_le _, rfl, HQ.out.2.2, Kept.refl _ _ _⟩
      case round =>
        obtain ⟨g, hg, rfl, hPx, hkx⟩ := hrel
        obtain ⟨wl, rfl⟩ : ∃ wl : World, wl = wr := ⟨_, rfl⟩
        have HL := Lib.hid (And.intro hPx hkx)
        clear hPx hkx
        by_cases hgk : g < k
        · have hne := HM.out.ne
          have c1 := (HL.out.2.block bb (by omega) (by simp; omega)).trans (HQ.out.1.block bb hbl (by simp; omega))
          have c2 := HL.out.2.block SB (by omega) (by simp; omega)
          have y1 := (World.cell?_of_block (w := wo) (a := ⟨bb, 1, none⟩) c1).trans HM.out.bal.at2.2.1
          have y2 := (World.cell?_of_block (w := wq) (a := ⟨SB, i, none⟩) c2).trans ((Blk.cell HQ.out.2.1 i).trans (sbC_get hin))
          rw [if_pos (by omega), upd_same] at y2
          have d1 : ∀ s : Desc wl, s.val.cell? ⟨bb, 1, none⟩ = some (.slice (some ⟨SB, 0, none⟩) n n) := fun s => s.cell y1
          have d2 : ∀ s : Desc wl, s.val.cell? ⟨SB, i, none⟩ = some (.slice (some ⟨wo.heap.size, 0, none⟩) k k) := fun s => s.cell y2
          have HW8 : Hid (∀ s : Desc wl, Calls Try.prog 47 #[.int .i64 0] s.val fun e w'' => e = .returned (.agg #[.int .i64 0, .int .i64 1]) ∧ ∃ s' : Desc wl, w'' = s'.val) := Lib.hid fun s => Calls.desc_of (by
            have := mwhole_any 0 s.val
            rw [fr_int] at this
            exact this)
          clear c1 c2 y1 y2
          go_wp2_with fail
          refine wp_region_desc_tail 8 (by kernel_rfl) (by kernel_rfl) ?_
          simp only [List.take_succ_cons, List.take_zero, List.drop_succ_cons, List.drop_zero]
          repeat (go_big_quiet_step (first | (go_at_call 47; exact HW8.out _)))
          refine wpQuiet_nil ?_
          rintro _ ⟨sd, rfl⟩
          have hb8 := sd.below
          generalize sd.val = w8 at hb8 ⊢
          clear d1 d2
          have hP8 := HL.out.1.below hb8 HL.out.1.lt
          obtain ⟨⟨pa, pb⟩, hpx⟩ : ∃ x, (zr k g)[g]? = some x := ⟨_, zr_get hgk⟩
          obtain ⟨r1, r2⟩ := hP8.read hpx
          have r3 := hP8.frozen (g * 2)
          have r4 := hP8.frozen (g * 2 + 1)
          have H8 := Lib.hid (And.intro hP8 hb8)
          clear hP8 hb8 hpx
          go_wp2_with fail
          go_roundw
          case rel =>
            have h9 := H8.out.1.set_ g 0 1
            rw [zr_set] at h9
            have hls := HL.out.2.size
            exact ⟨g + 1, by omega, by go_num, h9, ((HL.out.2.trans (Kept.of_below (H8.out.2.mono hls) _)).setCell (.inl (by simp)) _).setCell (.inl (by simp)) _⟩
          case measure => simp [intOf]; omega
        · obtain rfl : g = k := by omega
          go_wp2_with fail
          go_roundw
          case rel =>
            refine ⟨i + 1, upd R i wo.heap.size, by omega, by go_num, HM.out.more (Nat.le_refl _) (HQ.out.1.trans (HL.out.2.mono hqs (fun z hz => by simp at hz; right; omega))) ?_ ?_⟩
            · exact HQ.out.2.1.kept HL.out.2 (by omega) (by simp; omega)
            · rw [← zr_end]; exact HL.out.1
          case measure => simp [intOf]; omega
      -- }}
    · obtain rfl : n = i := by omega
      have hrun := HM.out.run
      have H4 := Lib.hid hrun
      obtain ⟨dm, hdm⟩ : ∃ dm, dm = wo.heap.size := ⟨_, rfl⟩
      have hdl := hrun.donm.lt
      rw [← hdm] at H4
      have HDM := Lib.hid hdm
      clear hrun hdm
      have hmm := @run_makeMap Try.prog
      go_wp2_with fail
      rw [← HDM.out]
      go_loopw [50] (fun gv wx => ∃ (g N : Nat) (s : SolS), g ≤ k ∧ gv = .int .i64 g ∧ N ≤ 6 * g ∧ solTo B V e n k g = some s ∧ SolOk k g s ∧ SolRun w wx #[.slice A n c, .slice U n d] #[.slice none 0 0, .slice none 0 0] bb PB SB dm n k N R s) (fun gv _ => k - (intOf gv).toNat)
      case atStart => exact ⟨0, 0, sol0, Nat.zero_le _, rfl, Nat.zero_le _, rfl, SolOk.zero k, H4.out⟩
      case round =>
        obtain ⟨g, N, s, hg, rfl, hN, hto, hok, hrun⟩ := hrel
        obtain ⟨wl, rfl⟩ : ∃ wl : World, wl = wr := ⟨_, rfl⟩
        have HL := Lib.hid (And.intro hto (And.intro hok hrun))
        clear hto hok hrun
        by_cases hgk : g < k
        · have hlk := HL.out.2.2.donm.look (t := 98) Try.underlying98 (zero_bool wl) (c := true) (i := g) (by omega)
          have hnx : solTo B V e n k (g + 1) = solStep B V e n k g s := by
            simp only [solTo, HL.out.1, Option.bind_some]
          have HNX := Lib.hid hnx
          clear hnx
          cases hdg : s.don (true, g) with
          | true =>
            rw [hdg] at hlk
            have HS : Hid (solStep B V e n k g s = some s) := Lib.hid (by unfold solStep; rw [if_pos hdg])
            clear hdg
            go_wp2_with fail
            go_roundw
            case rel =>
              exact ⟨g + 1, N, s, by omega, by go_num, by omega, HNX.out.trans HS.out, step_ok (useN_bd H.out.1.rows) H.out.1.buds hk.2 hn.2 H.out.1.hg hgk HL.out.2.1 HS.out, HL.out.2.2⟩
            case measure => simp [intOf]; omega
          | false =>
            rw [hdg] at hlk
            have HS : Hid (solStep B V e n k g s = (compB B V e n k g s.don s.pq s.sp).map fun st => ⟨st.don, compPq B st, (compBk B st s.sp).2⟩) := Lib.hid (by unfold solStep; rw [if_neg (by rw [hdg]; decide)])
            have HCW : Hid (Calls Try.prog 70 #[mktV A n c U n d, .int .i64 (e : Int), .int .i64 (g : Int), .pointer (some ⟨bb, 0, none⟩), .map (some dm)] wl (CompPost B V e n k g s.don s.pq s.sp wl dm PB N R)) := Lib.hid (mcomp_walk A n c U d k e g B V bb PB dm N s.don s.pq s.sp R SB w wl HL.out.2.2.spIn (HL.out.2.2.compIn H.out.1 (by omega)) H.out.2.2.2.2.2 hgk)
            obtain ⟨m1, m2, _, _⟩ := HL.out.2.2.mkb.at2
            clear hdg
            go_wp2_with fail
            refine HCW.out.mono ?_
            intro ev w5 hpost
            unfold CompPost at hpost
            obtain ⟨hk5, hpost⟩ := hpost
            cases hcb : compB B V e n k g s.don s.pq s.sp with
            | none =>
              rw [hcb] at hpost
              subst hpost
              have HNO : Hid (solF B V e n k = none) := Lib.hid (by
                unfold solF
                rw [solTo_none (HNX.out.trans (HS.out.trans (by rw [hcb]; rfl))) k (by omega)])
              have HF5 := Lib.hid (HL.out.2.2.fail hk5)
              obtain ⟨z1, z2, z3, z4⟩ := HF5.out.1.at2
              clear hk5 hcb HCW hlk
              have hz := (Blk.set_ (Blk.set_ HF5.out.1 0 (.slice none 0 0)) 1 (.slice none 0 0)).at2
              go_wp2_with fail
              (try simp only [Exit.inBlock, Exit.then])
              exact bodyPost_ret (v := .tuple #[.agg #[.slice none 0 0, .slice none 0 0], .bool false]) (by simp [results, Try.results61, go_sem, hz.1, hz.2.1]) rfl ⟨(HF5.out.2.setCell (by simp) _).setCell (by simp) _, by rw [HNO.out]; exact ⟨_, _, _, _, _, _, rfl⟩⟩
            | some st =>
              rw [hcb] at hpost
              obtain ⟨rfl, hp5, hd5, hr5⟩ := hpost
              have HST : Hid (solStep B V e n k g s = some ⟨st.don, compPq B st, (compBk B st s.sp).2⟩) := Lib.hid (HS.out.trans (by rw [hcb]; rfl))
              have H5 := Lib.hid (HL.out.2.2.comp (s' := ⟨st.don, compPq B st, (compBk B st s.sp).2⟩) hk5 hp5 hd5 hr5)
              clear hk5 hp5 hd5 hr5 hcb
              go_wp2_with fail
              go_roundw
              case rel =>
                exact ⟨g + 1, N + 6, _, by omega, by go_num, by omega, HNX.out.trans HST.out, step_ok (useN_bd H.out.1.rows) H.out.1.buds hk.2 hn.2 H.out.1.hg hgk HL.out.2.1 HST.out, H5.out⟩
              case measure => simp [intOf]; omega
        · obtain rfl : k = g := by omega
          go_wp2_with fail
          go_loopw [66] (fun iv wx => ∃ i : Nat, i ≤ n ∧ iv = .int .i64 i ∧ (∀ j, j < i → s.don (false, j) = true) ∧ wx = wl) (fun iv _ => n - (intOf iv).toNat)
          case atStart => exact ⟨0, Nat.zero_le _, rfl, fun j hj => by omega, rfl⟩
          case round =>
            obtain ⟨i, hi, rfl, hall, rfl⟩ := hrel
            have HA := Lib.hid hall
            clear hall
            by_cases hin : i < n
            · have hlk := HL.out.2.2.donm.look (t := 98) Try.underlying98 (zero_bool wr) (c := false) (i := i) (by omega)
              cases hdi : s.don (false, i) with
              | true =>
                rw [hdi] at hlk
                have HD := Lib.hid hdi
                clear hdi
                go_wp2_with fail
                go_roundw
                case rel =>
                  refine ⟨i + 1, by omega, by go_num, fun j hj => ?_, trivial⟩
                  rcases Nat.lt_or_ge j i with h1 | h1
                  · exact HA.out j h1
                  · rw [show j = i by omega]; exact HD.out
                case measure => simp [intOf]; omega
              | false =>
                rw [hdi] at hlk
                have HNO : Hid (solF B V e n k = none) := Lib.hid (by
                  unfold solF
                  rw [HL.out.1]
                  have : allDon n s = false := by
                    unfold allDon
                    rw [List.all_eq_false]
                    exact ⟨i, List.mem_range.2 hin, by rw [hdi]; decide⟩
                  simp only [this, Bool.false_and]
                  rfl)
                obtain ⟨z1, z2, z3, z4⟩ := HL.out.2.2.res.at2
                clear hdi
                have hz := (Blk.set_ (Blk.set_ HL.out.2.2.res 0 (.slice none 0 0)) 1 (.slice none 0 0)).at2
                go_wp2_with fail
                (try simp only [Exit.inBlock, Exit.then])
                exact bodyPost_ret (v := .tuple #[.agg #[.slice none 0 0, .slice none 0 0], .bool false]) (by simp [results, Try.results61, go_sem, hz.1, hz.2.1]) rfl ⟨(HL.out.2.2.bel.setCell (by simp) _).setCell (by simp) _, by rw [HNO.out]; exact ⟨_, _, _, _, _, _, rfl⟩⟩
            · obtain rfl : n = i := by omega
              have hF : solF B V e n k = if balB B V (solP k s) (solS n k s) then some (solP k s, solS n k s) else none := by
                unfold solF
                rw [HL.out.1]
                have : allDon n s = true := by
                  unfold allDon
                  rw [List.all_eq_true]
                  exact fun j hj => HA.out j (List.mem_range.1 hj)
                simp only [this, Bool.true_and]
              have HF := Lib.hid hF
              have hbi : BalIn wr A n U (some ⟨PB, 0, none⟩) k (some ⟨SB, 0, none⟩) B V (solP k s) (solS n k s) := {
                mkt := H.out.1.mkt.below HL.out.2.2.bel
                hn := hn
                hk := by omega
                hg := H.out.1.hg
                rows := H.out.1.rows
                buds := H.out.1.buds
                hp := by simp [solP]
                pok := solP_ok HL.out.2.1
                hP := HL.out.2.2.frc HL.out.2.1
                hS := by simp [solS]
                srow := by
                  intro r hr
                  obtain ⟨i, _, rfl⟩ := List.mem_map.1 hr
                  simp
                sok := solS_ok HL.out.2.1
                hSp := HL.out.2.2.mat }
              have HBA : Hid (∀ s' : Desc wr, Calls Try.prog 56 #[.agg #[.slice A n c, .slice U n d], .agg #[.slice (some ⟨PB, 0, none⟩) k k, .slice (some ⟨SB, 0, none⟩) n n]] s'.val fun e w'' => e = .returned (.bool (balB B V (solP k s) (solS n k s))) ∧ ∃ s'' : Desc wr, w'' = s''.val) := Lib.hid fun s' => Calls.desc_of (mbalanced_any A n c U d (some ⟨PB, 0, none⟩) k k (some ⟨SB, 0, none⟩) n B V (solP k s) (solS n k s) s'.val (hbi.below s'.below))
              obtain ⟨m1, m2, _, _⟩ := HL.out.2.2.mkb.at2
              obtain ⟨b1, b2, _, _⟩ := HL.out.2.2.bal.at2
              have d1 : ∀ s : Desc wr, s.val.cell? ⟨w.heap.size, 0, none⟩ = some (.slice A n c) := fun s => s.cell m1
              have d2 : ∀ s : Desc wr, s.val.cell? ⟨w.heap.size, 1, none⟩ = some (.slice U n d) := fun s => s.cell m2
              have d3 : ∀ s : Desc wr, s.val.cell? ⟨bb, 0, none⟩ = some (.slice (some ⟨PB, 0, none⟩) k k) := fun s => s.cell b1
              have d4 : ∀ s : Desc wr, s.val.cell? ⟨bb, 1, none⟩ = some (.slice (some ⟨SB, 0, none⟩) n n) := fun s => s.cell b2
              obtain ⟨bl, hbl⟩ : ∃ b, b = balB B V (solP k s) (solS n k s) := ⟨_, rfl⟩
              rw [← hbl] at HBA
              have HBL := Lib.hid hbl
              clear hbl hbi hF m1 m2 b1 b2
              go_wp2_with fail
              refine wp_region_desc_tail 4 (by kernel_rfl) (by kernel_rfl) ?_
              simp only [List.take_succ_cons, List.take_zero, List.drop_succ_cons, List.drop_zero]
              repeat (go_big_quiet_step (first | (go_at_call 56; exact HBA.out _)))
              refine wpQuiet_nil ?_
              rintro _ ⟨sd, rfl⟩
              have hb8 := sd.below
              generalize sd.val = w8 at hb8 ⊢
              clear d1 d2 d3 d4
              have hr8 := HL.out.2.2.below hb8
              obtain ⟨z1, z2, z3, z4⟩ := hr8.res.at2
              have H8 := Lib.hid hr8
              clear hr8 hb8
              have hz := (Blk.set_ (Blk.set_ H8.out.res 0 (.slice (some ⟨PB, 0, none⟩) k k)) 1 (.slice (some ⟨SB, 0, none⟩) n n)).at2
              have HZ := Lib.hid hz
              have HFR := Lib.hid (And.intro (H8.out.frc HL.out.2.1) H8.out.mat)
              clear hz
              go_wp2_with fail
              (try simp only [Exit.inBlock, Exit.then])
              refine bodyPost_ret (v := .tuple #[.agg #[.slice (some ⟨PB, 0, none⟩) k k, .slice (some ⟨SB, 0, none⟩) n n], .bool bl]) (by simp [results, Try.results61, go_sem, HZ.out.1, HZ.out.2.1]) rfl ?_
              refine ⟨(H8.out.bel.setCell (by simp) _).setCell (by simp) _, ?_⟩
              rw [HF.out, ← HBL.out]
              have hne := H8.out.ne
              cases bl with
              | true =>
                simp only [if_true]
                have hq := H8.out.ret (.slice (some ⟨PB, 0, none⟩) k k) (.slice (some ⟨SB, 0, none⟩) n n)
                exact ⟨PB, SB, rfl, hq.bmem HL.out.2.1⟩
              | false =>
                simp only [Bool.false_eq_true, if_false]
                exact ⟨_, _, _, _, _, _, rfl⟩

/- Contract: balance of package market. -/

/-- The first balance that is found, of the first e sets of edges. -/
def balTo (B : List Int) (V : List (List Int)) (n k : Nat) : Nat → Option (List Rat × List (List Rat))
  | 0 => none
  | e + 1 => match balTo B V n k e with
    | some r => some r
    | none => solF B V e n k
def balF (B : List Int) (V : List (List Int)) (n k : Nat) : Option (List Rat × List (List Rat)) := balTo B V n k (2 ^ (n * k))
theorem balTo_some {B : List Int} {V : List (List Int)} {n k e : Nat} {r : List Rat × List (List Rat)} (h : balTo B V n k e = some r) : ∀ z, e ≤ z → balTo B V n k z = some r := by
  intro z hz
  induction z with
  | zero => rw [show e = 0 by omega] at h; exact h
  | succ z ih =>
    rcases Nat.lt_or_ge e (z + 1) with h1 | h1
    · simp only [balTo]; rw [ih (by omega)]
    · rw [show z + 1 = e by omega]; exact h
theorem balTo_ok {B : List Int} {V : List (List Int)} {n k : Nat} (hu : ∀ i g, 0 ≤ useN V i g ∧ useN V i g ≤ 20) (hB : ∀ b ∈ B, 1 ≤ b ∧ b ≤ 20) (hk : k ≤ 3) (hn : n ≤ 3) (hG : goodsN V = k) {r : List Rat × List (List Rat)} : ∀ e, balTo B V n k e = some r → SolR B V n k r
  | 0, h => by cases h
  | e + 1, h => by
    simp only [balTo] at h
    cases h1 : balTo B V n k e with
    | none => rw [h1] at h; exact solF_ok hu hB hk hn hG h
    | some r' => rw [h1] at h; injection h with h; subst h; exact balTo_ok hu hB hk hn hG e h1
/-- What balance leaves. -/
def BalPost (B : List Int) (V : List (List Int)) (n k : Nat) (w : World) (x : Ending) (w' : World) : Prop :=
  Below w.heap.size w w' ∧ match balF B V n k with
    | none => x = .returned (.agg #[.slice none 0 0, .slice none 0 0])
    | some r => ∃ PB SB, x = .returned (balV (some ⟨PB, 0, none⟩) k k (some ⟨SB, 0, none⟩) n n) ∧ BalMem w.heap.size w' PB SB r
theorem pow_le9 {n k : Nat} (hn : 1 ≤ n ∧ n ≤ 3) (hk : 1 ≤ k ∧ k ≤ 3) : 2 ^ (n * k) ≤ 512 := by
  have h1 : n = 1 ∨ n = 2 ∨ n = 3 := by omega
  have h2 : k = 1 ∨ k = 2 ∨ k = 3 := by omega
  rcases h1 with rfl | rfl | rfl <;> rcases h2 with rfl | rfl | rfl <;> decide
set_option maxRecDepth 100000 in
set_option maxHeartbeats 4000000 in
theorem mbalance_any (A : Option Addr) (n c : Nat) (U : Option Addr) (d k : Nat) (B : List Int) (V : List (List Int)) (w : World) (h : MkIn w A n U k B V) :
    Calls Try.prog 40 #[mktV A n c U n d] w (BalPost B V n k w) := by
  obtain ⟨w1, hw1⟩ : ∃ w1, w1 = (w.alloc (.cells #[.slice A n c, .slice U n d] 30)).alloc (.cells #[.slice none 0 0, .slice none 0 0] 66) := ⟨_, rfl⟩
  have hb1 : Below w.heap.size w w1 := by rw [hw1]; exact ((Below.refl _ _).alloc (Nat.le_refl _) _).alloc (by simp) _
  have hM1 : Blk w1 w.heap.size 30 #[.slice A n c, .slice U n d] := by rw [hw1]; exact (Blk.new _ _ _ rfl).alloc _
  have hR1 : Blk w1 (w.heap.size + 1) 66 #[.slice none 0 0, .slice none 0 0] := by rw [hw1]; exact Blk.new _ _ _ (by simp)
  have hsz1 : w1.heap.size = w.heap.size + 2 := by rw [hw1]; simp
  obtain ⟨x0, x1, _, _⟩ := hM1.at2
  have h1 := h.below hb1
  have hn := h.hn
  have hk := h.hk
  have H := Lib.hid (And.intro h (And.intro h1 (And.intro hb1 (And.intro hM1 hR1))))
  clear h h1 hb1 hM1 hR1
  unfold mktV
  go_enter Try.func40, Try.ntmps40
  go_upto_region 1 with fail
  rw [← hw1]
  have HGO : Hid (∀ s : Desc w1, Calls Try.prog 53 #[.agg #[.slice A n c, .slice U n d]] s.val fun e w'' => e = .returned (.int .i64 (k : Int)) ∧ ∃ s' : Desc w1, w'' = s'.val) := Lib.hid fun s => Calls.desc_of (by
    have := mgoods_any A n c U n d B V s.val (H.out.2.1.mkt.below s.below) hn.1
    rw [H.out.1.hg] at this
    exact this)
  have d1 : ∀ s : Desc w1, s.val.cell? ⟨w.heap.size, 0, none⟩ = some (.slice A n c) := fun s => s.cell x0
  have d2 : ∀ s : Desc w1, s.val.cell? ⟨w.heap.size, 1, none⟩ = some (.slice U n d) := fun s => s.cell x1
  clear hw1 x0 x1
  go_cut [12, 13] (fun av bv wx => av = .int .i64 ((2 ^ (n * k) : Nat) : Int) ∧ bv = .int .i64 0 ∧ Below w1.heap.size w1 wx)
  case first =>
    have h3 : n = 1 ∨ n = 2 ∨ n = 3 := by omega
    have h4 : k = 1 ∨ k = 2 ∨ k = 3 := by omega
    clear H hsz1 hn hk
    rcases h3 with rfl | rfl | rfl <;> rcases h4 with rfl | rfl | rfl
    all_goals
      refine wp_region_desc (by kernel_rfl) (by kernel_rfl) ?_
      repeat (go_big_quiet_step (first | (go_at_call 53; exact HGO.out _)))
      refine wpQuiet_nil ?_
      rintro _ ⟨sd, rfl⟩
      have hb2 := sd.below
      generalize sd.val = w2 at hb2 ⊢
      clear d1 d2
      go_wp2_with fail
      go_meet
      case rel => exact ⟨rfl, rfl, hb2⟩
  obtain ⟨w2, rfl⟩ : ∃ w2 : World, w2 = wc := ⟨_, rfl⟩
  obtain ⟨rfl, rfl, hb2⟩ := hcut
  have hp9 := pow_le9 hn hk
  obtain ⟨M, hM⟩ : ∃ M, M = 2 ^ (n * k) := ⟨_, rfl⟩
  rw [← hM] at hp9 ⊢
  have HMM := Lib.hid hM
  have H2 := Lib.hid (And.intro (H.out.2.2.1.trans (hb2.mono H.out.2.2.1.size)) (And.intro (H.out.2.2.2.1.below hb2 H.out.2.2.2.1.lt) (H.out.2.2.2.2.below hb2 H.out.2.2.2.2.lt)))
  have hs2 := hb2.size
  clear hb2 d1 d2 HGO hM
  go_wp2_with fail
  go_loopw [13] (fun ev wx => ∃ e : Nat, e ≤ M ∧ ev = .int .i64 e ∧ balTo B V n k e = none ∧ Blk wx w.heap.size 30 #[.slice A n c, .slice U n d] ∧ Blk wx (w.heap.size + 1) 66 #[.slice none 0 0, .slice none 0 0] ∧ Below w.heap.size w wx) (fun ev _ => M - (intOf ev).toNat)
  case atStart => exact ⟨0, Nat.zero_le _, rfl, rfl, H2.out.2.1, H2.out.2.2, H2.out.1⟩
  case round =>
    obtain ⟨e, he, rfl, hbt, hmk, hres, hbl⟩ := hrel
    obtain ⟨wo, rfl⟩ : ∃ wo : World, wo = wr := ⟨_, rfl⟩
    have HR := Lib.hid (And.intro hbt (And.intro hmk (And.intro hres hbl)))
    obtain ⟨m1, m2, _, _⟩ := hmk.at2
    obtain ⟨z1, z2, z3, z4⟩ := hres.at2
    have hwl := hres.lt
    clear hbt hmk hres hbl
    by_cases hem : e < M
    · have HSO : Hid (Calls Try.prog 61 #[mktV A n c U n d, .int .i64 (e : Int)] wo (SolPost B V e n k wo)) := Lib.hid (msolve_any A n c U d k e B V wo (H.out.1.below (HR.out.2.2.2)) (by omega))
      go_wp2_with fail
      refine HSO.out.mono ?_
      intro ev w5 hpost
      unfold SolPost at hpost
      obtain ⟨hb5, hpost⟩ := hpost
      have hbt2 : balTo B V n k (e + 1) = solF B V e n k := by simp only [balTo, HR.out.1]
      cases hsf : solF B V e n k with
      | none =>
        rw [hsf] at hpost hbt2
        obtain ⟨A1, a1, b1, A2, a2, b2, rfl⟩ := hpost
        have HN := Lib.hid (And.intro hb5 hbt2)
        clear hb5 hbt2 hsf z1 z2 z3 z4 m1 m2 HSO
        go_wp2_with fail
        go_roundw
        case rel =>
          have hb6 : Below wo.heap.size wo (w5.alloc (.cells #[.slice A1 a1 b1, .slice A2 a2 b2] 66)) := HN.out.1.alloc HN.out.1.size _
          exact ⟨e + 1, by omega, by go_num, HN.out.2, HR.out.2.1.below hb6 HR.out.2.1.lt, HR.out.2.2.1.below hb6 hwl, HR.out.2.2.2.trans (hb6.mono HR.out.2.2.2.size)⟩
        case measure => simp [intOf]; omega
      | some r =>
        rw [hsf] at hpost hbt2
        obtain ⟨PB, SB, rfl, hm5⟩ := hpost
        have hf : balF B V n k = some r := by
          unfold balF
          rw [← HMM.out]
          exact balTo_some hbt2 M (by omega)
        have hr5 := (HR.out.2.2.1.below hb5 hwl).alloc (.cells #[.slice (some ⟨PB, 0, none⟩) k k, .slice (some ⟨SB, 0, none⟩) n n] 66)
        obtain ⟨z5, z6, z7, z8⟩ := hr5.at2
        have hz := (Blk.set_ (Blk.set_ hr5 0 (.slice (some ⟨PB, 0, none⟩) k k)) 1 (.slice (some ⟨SB, 0, none⟩) n n)).at2
        have HZ := Lib.hid hz
        have hbw : Below w.heap.size w (w5.alloc (.cells #[.slice (some ⟨PB, 0, none⟩) k k, .slice (some ⟨SB, 0, none⟩) n n] 66)) := (HR.out.2.2.2.trans (hb5.mono HR.out.2.2.2.size)).alloc (by have := HR.out.2.2.2.size; have := hb5.size; omega) _
        have HN := Lib.hid (And.intro hf (And.intro hm5 (And.intro hbw hb5.size)))
        clear hb5 hbt2 hsf z1 z2 z3 z4 m1 m2 HSO hf hm5 hr5 hz hbw
        simp only [balV]
        go_wp2_with fail
        refine bodyPost_ret (v := .agg #[.slice (some ⟨PB, 0, none⟩) k k, .slice (some ⟨SB, 0, none⟩) n n]) (by simp [results, Try.results40, go_sem, HZ.out.1, HZ.out.2.1]) rfl ⟨(HN.out.2.2.1.setCell (by simp) _).setCell (by simp) _, ?_⟩
        rw [HN.out.1]
        refine ⟨PB, SB, rfl, HN.out.2.1.keep (by have := HR.out.2.2.2.size; omega) (by simp [World.setCell]) (fun g h1 h2 => ?_)⟩
        exact (Below.heap_setCell _ ⟨w.heap.size + 1, 1, none⟩ _ g (by simp; omega)).trans ((Below.heap_setCell _ ⟨w.heap.size + 1, 0, none⟩ _ g (by simp; omega)).trans (Below.heap_alloc w5 _ g h2))
    · obtain rfl : M = e := by omega
      have hz := (Blk.set_ (Blk.set_ HR.out.2.2.1 0 (.slice none 0 0)) 1 (.slice none 0 0)).at2
      have HZ := Lib.hid hz
      clear hz
      go_wp2_with fail
      refine bodyPost_ret (v := .agg #[.slice none 0 0, .slice none 0 0]) (by simp [results, Try.results40, go_sem, HZ.out.1, HZ.out.2.1]) rfl ⟨(HR.out.2.2.2.setCell (by simp) _).setCell (by simp) _, ?_⟩
      have hf : balF B V n k = none := by
        unfold balF
        rw [← HMM.out]
        exact HR.out.1
      rw [hf]

/- Contracts: Prices and Spend of package market. -/

/-- The balance of a market, if it is valid. -/
def prF (B : List Int) (V : List (List Int)) : Option (List Rat × List (List Rat)) := if validM B V then balF B V B.length (goodsN V) else none
/-- A valid market has a balance that the program finds. -/
def Found (B : List Int) (V : List (List Int)) : Prop := validM B V = true → ∃ r, balF B V B.length (goodsN V) = some r
theorem validM_use {B : List Int} {V : List (List Int)} (h : validM B V = true) : ∀ i g, 0 ≤ useN V i g ∧ useN V i g ≤ 20 := useN_bd (validM_iff.1 h).2.2.1
theorem prF_ok {B : List Int} {V : List (List Int)} {r : List Rat × List (List Rat)} (h : prF B V = some r) : validM B V = true ∧ SolR B V B.length (goodsN V) r := by
  unfold prF at h
  by_cases hv : validM B V = true
  · rw [if_pos hv] at h
    have h2 := validM_iff.1 hv
    exact ⟨hv, balTo_ok (validM_use hv) h2.1.2.2.1 h2.2.1.2 h2.1.2.1 rfl _ h⟩
  · rw [if_neg hv] at h; cases h
theorem mkIn_of {w : World} {A : Option Addr} {n : Nat} {U : Option Addr} {m : Nat} {B : List Int} {V : List (List Int)} (h : MktAt w A n U m B V) (hv : validM B V = true) : m = n ∧ MkIn w A n U (goodsN V) B V := by
  obtain ⟨⟨a1, a2, a3, a4⟩, b1, b2, b3⟩ := validM_iff.1 hv
  have e1 := h.hB
  have e2 := h.hV
  have e : m = n := by omega
  subst e
  exact ⟨rfl, h, by omega, b1, rfl, b2, a3⟩
theorem field_b0 (a b : Value) (w : World) : (Instr.field 66 (.agg #[a, b]) 0).run Try.prog w = .ok a w := by kernel_rfl
theorem field_b1 (a b : Value) (w : World) : (Instr.field 66 (.agg #[a, b]) 1).run Try.prog w = .ok b w := by kernel_rfl
def PricesPost (B : List Int) (V : List (List Int)) (w : World) (x : Ending) (w' : World) : Prop :=
  Below w.heap.size w w' ∧ match prF B V with
    | none => x = .returned (.tuple #[.slice none 0 0, .int .i64 2])
    | some r => ∃ A' c', x = .returned (.tuple #[.slice A' r.1.length c', .int .i64 0]) ∧ w'.ownsRow w.heap.size 37 2 (.slice A' r.1.length c') r.1.length (fcells r.1)
set_option maxRecDepth 100000 in
set_option maxHeartbeats 1600000 in
theorem mprices_any (A : Option Addr) (n c : Nat) (U : Option Addr) (m d : Nat) (B : List Int) (V : List (List Int)) (w : World) (h : MktAt w A n U m B V) (hn : n ≤ 1000) (hm : m ≤ 1000) (hr : ∀ r ∈ V, r.length ≤ 1000) (hex : Found B V) :
    Calls Try.prog 14 #[mktV A n c U m d] w (PricesPost B V w) := by
  have hb1 : Below w.heap.size w (w.alloc (.cells #[.slice A n c, .slice U m d] 30)) := (Below.refl _ _).alloc (Nat.le_refl _) _
  have hM1 : Blk (w.alloc (.cells #[.slice A n c, .slice U m d] 30)) w.heap.size 30 #[.slice A n c, .slice U m d] := Blk.new _ _ _ rfl
  have HV := Lib.hid (mvalid_any A n c U m d B V _ (h.below hb1) hn hm hr)
  have H := Lib.hid (And.intro h (And.intro hex (And.intro hb1 hM1)))
  clear h hex hb1 hM1
  unfold mktV
  go_enter Try.func14, Try.ntmps14
  go_wp2_with fail
  refine HV.out.mono ?_
  rintro e w2 ⟨rfl, hb2⟩
  have hM2 := H.out.2.2.2.below hb2 (by simp)
  have hbw := H.out.2.2.1.trans (hb2.mono H.out.2.2.1.size)
  obtain ⟨m1, m2, _, _⟩ := hM2.at2
  have H2 := Lib.hid (And.intro hM2 hbw)
  clear hM2 hbw hb2 HV
  cases hv : validM B V with
  | false =>
    have HP : Hid (prF B V = none) := Lib.hid (by unfold prF; rw [if_neg (by rw [hv]; decide)])
    clear hv
    go_wp2_with fail
    go_ret2
    exact ⟨H2.out.2, by rw [HP.out]; rfl⟩
  | true =>
    obtain ⟨rfl, hmk⟩ := mkIn_of H.out.1 hv
    obtain ⟨r, hbf⟩ := H.out.2.1 hv
    have HP : Hid (prF B V = some r) := Lib.hid (by unfold prF; rw [if_pos hv]; exact hbf)
    have hok := (prF_ok HP.out).2
    have HB : Hid (Calls Try.prog 40 #[mktV A m c U m d] w2 (BalPost B V m (goodsN V) w2)) := Lib.hid (mbalance_any A m c U d (goodsN V) B V w2 (hmk.below H2.out.2))
    have hBm := H.out.1.hB
    rw [hBm] at hbf
    have HBF := Lib.hid (And.intro hbf hok)
    clear hv hbf hok hmk
    go_wp2_with fail
    refine HB.out.mono ?_
    intro ev w5 hpost
    unfold BalPost at hpost
    rw [HBF.out.1] at hpost
    obtain ⟨hb5, PB, SB, rfl, hm5⟩ := hpost
    have hfd := field_b0 (.slice (some ⟨PB, 0, none⟩) (goodsN V) (goodsN V)) (.slice (some ⟨SB, 0, none⟩) m m)
    have HFR : Hid (Calls Try.prog 39 #[.slice (some ⟨PB, 0, none⟩) (goodsN V) (goodsN V)] w5 fun e w' => ∃ A' c', e = .returned (.slice A' (goodsN V) c') ∧ w'.ownsRow w5.heap.size 37 2 (.slice A' (goodsN V) c') (goodsN V) (pcells (r.1.map pr)) ∧ Below w5.heap.size w5 w') := Lib.hid (mfracs_any (some ⟨PB, 0, none⟩) (goodsN V) (goodsN V) (r.1.map pr) w5 (by rw [List.length_map, HBF.out.2.lp]) (by have := (validM_iff.1 (prF_ok HP.out).1).2.1.2; omega) hm5.get.1)
    have H5 := Lib.hid (And.intro hb5 hm5)
    clear hb5 hm5 m1 m2 HB
    unfold balV
    go_wp2_with fail
    refine HFR.out.mono ?_
    rintro e w6 ⟨A', c', rfl, hown, hb6⟩
    have H6 := Lib.hid (And.intro hown hb6)
    clear hown hb6 HFR hfd
    go_wp2_with fail
    go_ret2
    have hs5 := H5.out.1.size
    have hbb := H2.out.2.trans (H5.out.1.mono H2.out.2.size)
    refine ⟨hbb.trans (H6.out.2.mono hbb.size), ?_⟩
    rw [HP.out]
    refine ⟨A', c', by rw [HBF.out.2.lp]; rfl, ?_⟩
    rw [HBF.out.2.lp, ← pcells_fr]
    exact own_mono H6.out.1 hbb.size

/- The program finds a balance of every valid market: plain Lean. -/

section
variable {B : List Int} {V V' : List (List Int)} {e n k first M : Nat} {don : Nd → Bool} {pq0 p : Nat → Rat} {s : Nat → Nat → Rat} {st : CSt}
/-- The same search, but for the prices. -/
structure Same (st st' : CSt) : Prop where
  ord : st.ord = st'.ord
  par : st.par = st'.par
  don : st.don = st'.don
theorem same_visit (hG : goodsN V = k) (hG' : goodsN V' = k) (hu : ∀ i g, i < n → g < k → e.testBit (i * k + g) = true → useN V i g ≠ 0) {st st' a' : CSt} {j : Nat} {x : Nd} {y : Nat} (h : Same st st') (hv : visit V' e n j st' x y = some a') : ∃ a, visit V e n j st x y = some a ∧ Same a a' := by
  have hsk : skipB V e n j st x y = skipB V' e n j st' x y := by unfold skipB; rw [hG, hG', h.par]
  unfold visit at hv ⊢
  rw [hsk]
  by_cases hs : skipB V' e n j st' x y = true
  · rw [if_pos hs] at hv ⊢
    injection hv with hv
    subst hv
    exact ⟨st, rfl, h⟩
  · rw [if_neg hs] at hv ⊢
    by_cases hc : (st'.don (nextOf x y) || decide (useN V' (buyerOf x y) (goodOf x y) = 0)) = true
    · rw [if_pos hc] at hv; cases hv
    · rw [if_neg hc] at hv
      injection hv with hv
      subst hv
      simp only [skipB, Bool.or_eq_true, decide_eq_true_eq, not_or, Bool.not_eq_true', Bool.not_eq_false] at hs
      rw [hG'] at hs
      simp only [Bool.or_eq_true, decide_eq_true_eq, not_or, Bool.not_eq_true] at hc
      obtain ⟨s1, s2, s3, _⟩ := hs
      have h0 := hu _ _ (by omega) (by omega) s3
      rw [if_neg (by rw [h.don, hc.1]; simpa using h0)]
      refine ⟨_, rfl, ?_, ?_, ?_⟩
      · show st.ord ++ _ = st'.ord ++ _; rw [h.ord]
      · show upd st.par _ _ = upd st'.par _ _; rw [h.par]
      · show upd st.don _ _ = upd st'.don _ _; rw [h.don]
theorem same_visitTo (hG : goodsN V = k) (hG' : goodsN V' = k) (hu : ∀ i g, i < n → g < k → e.testBit (i * k + g) = true → useN V i g ≠ 0) {st st' : CSt} {j : Nat} {x : Nd} (h : Same st st') : ∀ (y : Nat) (a' : CSt), visitTo V' e n j st' x y = some a' → ∃ a, visitTo V e n j st x y = some a ∧ Same a a'
  | 0, a', hv => by injection hv with hv; subst hv; exact ⟨st, rfl, h⟩
  | y + 1, a', hv => by
    simp only [visitTo] at hv ⊢
    cases h1 : visitTo V' e n j st' x y with
    | none => rw [h1] at hv; cases hv
    | some s' =>
      rw [h1] at hv
      obtain ⟨s, h2, h3⟩ := same_visitTo hG hG' hu h y s' h1
      rw [h2]
      exact same_visit hG hG' hu h3 hv
theorem same_srch (hG : goodsN V = k) (hG' : goodsN V' = k) (hu : ∀ i g, i < n → g < k → e.testBit (i * k + g) = true → useN V i g ≠ 0) {st st' : CSt} (h : Same st st') : ∀ (j : Nat) (a' : CSt), srchTo V' e n M st' j = some a' → ∃ a, srchTo V e n M st j = some a ∧ Same a a'
  | 0, a', hv => by injection hv with hv; subst hv; exact ⟨st, rfl, h⟩
  | j + 1, a', hv => by
    simp only [srchTo] at hv ⊢
    cases h1 : srchTo V' e n M st' j with
    | none => rw [h1] at hv; cases hv
    | some s' =>
      rw [h1] at hv
      obtain ⟨s, h2, h3⟩ := same_srch hG hG' hu h j s' h1
      rw [h2]
      simp only [Option.bind_some] at hv ⊢
      rw [h3.ord]
      cases h4 : s'.ord[j]? with
      | none =>
        rw [h4] at hv
        injection hv with hv
        subst hv
        exact ⟨s, rfl, h3⟩
      | some x =>
        rw [h4] at hv
        exact same_visitTo hG hG' hu h3 M a' hv
theorem goodsN_ones (hn : 1 ≤ n) : goodsN (onesV n k) = k := by
  unfold goodsN rowV onesV
  rw [List.getD_eq_getElem?_getD, List.getElem?_replicate, if_pos (by omega)]
  simp
/-- The sums over a search's nodes. -/
theorem tot_sum (pq : Nat → Rat) : ∀ l : List Nd, l.Nodup → (∀ g, (true, g) ∈ l → g < k) → totOf pq l = sumQ (fun g => one ((true, g) ∈ l) * pq g) k
  | [], _, _ => by rw [sumQ_zero fun g _ => by rw [one_f (by simp)]; grind]; rfl
  | (c, i) :: l, hn, hr => by
    have hn2 := (List.nodup_cons.1 hn)
    have ih := tot_sum pq l hn2.2 fun g hg => hr g (List.mem_cons_of_mem _ hg)
    simp only [totOf]
    rw [ih]
    cases c
    · simp only [Bool.false_eq_true, if_false]
      rw [Rat.zero_add]
      refine sumQ_congr fun g _ => ?_
      rw [one_iff (P := (true, g) ∈ l) (Q := (true, g) ∈ (false, i) :: l) (by simp)]
    · simp only [if_true]
      have hi := hr i (List.mem_cons_self ..)
      have hone := sumQ_one (f := fun g => one ((true, g) ∈ (true, i) :: l) * pq g - one ((true, g) ∈ l) * pq g) hi (fun g _ hne => by
        rw [one_iff (P := (true, g) ∈ (true, i) :: l) (Q := (true, g) ∈ l) (by simp [hne])]; grind)
      rw [sq_sub, one_t (P := (true, i) ∈ (true, i) :: l) (List.mem_cons_self ..), one_f (P := (true, i) ∈ l) hn2.1] at hone
      grind
theorem bud_sum (B : List Int) : ∀ l : List Nd, l.Nodup → (∀ i, (false, i) ∈ l → i < n) → ((budOf B l : Int) : Rat) = sumQ (fun i => one ((false, i) ∈ l) * budQ B i) n
  | [], _, _ => by rw [sumQ_zero fun g _ => by rw [one_f (by simp)]; grind]; rfl
  | (c, i) :: l, hn, hr => by
    have hn2 := (List.nodup_cons.1 hn)
    have ih := bud_sum B l hn2.2 fun g hg => hr g (List.mem_cons_of_mem _ hg)
    simp only [budOf]
    rw [Rat.intCast_add, ih]
    cases c
    · simp only [Bool.false_eq_true, if_false]
      have hi := hr i (List.mem_cons_self ..)
      have hone := sumQ_one (f := fun g => one ((false, g) ∈ (false, i) :: l) * budQ B g - one ((false, g) ∈ l) * budQ B g) hi (fun g _ hne => by
        rw [one_iff (P := (false, g) ∈ (false, i) :: l) (Q := (false, g) ∈ l) (by simp [hne])]; grind)
      rw [sq_sub, one_t (P := (false, i) ∈ (false, i) :: l) (List.mem_cons_self ..), one_f (P := (false, i) ∈ l) hn2.1] at hone
      have : ((B.getD i 0 : Int) : Rat) = budQ B i := rfl
      grind
    · simp only [if_true]
      have e0 : ((0 : Int) : Rat) = 0 := rfl
      rw [e0, Rat.zero_add]
      refine sumQ_congr fun g _ => ?_
      rw [one_iff (P := (false, g) ∈ l) (Q := (false, g) ∈ (true, i) :: l) (by simp)]
/-- An edge has both its ends in the search, or none. -/
theorem ord_closed (hG : goodsN V = k) (hT : TEnd V e n k first don pq0 p st) (hm : MaskOf n k s e) {i h : Nat} (hi : i < n) (hh : h < k) (hs : s i h ≠ 0) : (false, i) ∈ st.ord ↔ (true, h) ∈ st.ord := by
  constructor
  · intro hx
    obtain ⟨j, hj⟩ := List.getElem?_of_mem hx
    rcases nbr hG hT hm hj (z := h) hh (by exact hs) with ⟨h1, h2⟩ | ⟨i2, _, h2, _⟩
    · obtain ⟨i2, z, _, h4, _⟩ := par_of hT hj h1
      rw [← h2] at h4
      exact List.mem_of_getElem? h4
    · exact List.mem_of_getElem? h2
  · intro hx
    obtain ⟨j, hj⟩ := List.getElem?_of_mem hx
    rcases nbr hG hT hm hj (z := i) hi (by exact hs) with ⟨h1, h2⟩ | ⟨i2, _, h2, _⟩
    · obtain ⟨i2, z, _, h4, _⟩ := par_of hT hj h1
      rw [← h2] at h4
      exact List.mem_of_getElem? h4
    · exact List.mem_of_getElem? h2
/-- What solve knows when it has gone through some goods. -/
structure SolI (B : List Int) (n k : Nat) (p : Nat → Rat) (s : Nat → Nat → Rat) (st : SolS) : Prop where
  cl : ∀ i h, i < n → h < k → s i h ≠ 0 → (st.don (false, i) = true ↔ st.don (true, h) = true)
  pq : ∀ h, h < k → st.don (true, h) = true → st.pq h = p h
  sp1 : ∀ i, i < n → st.don (false, i) = true → ∀ h, h < k → st.sp i h = s i h
  sp0 : ∀ i, i < n → st.don (false, i) = false → ∀ h, h < k → st.sp i h = 0
theorem SolI.zero : SolI B n k p s sol0 where
  cl := fun _ _ _ _ _ => Iff.rfl
  pq := fun _ _ h => by cases h
  sp1 := fun _ _ h => by cases h
  sp0 := fun _ _ _ _ _ => rfl
theorem comp_found (hG : goodsN V = k) (hub : ∀ i g, 0 ≤ useN V i g ∧ useN V i g ≤ 20) (hmk : MkOk n k (budQ B) (useQ V)) (hE : Equi n k (budQ B) (useQ V) p s) (hm : MaskOf n k s e) {ss : SolS} (hI : SolI B n k p s ss) (hn3 : n ≤ 3) (hk3 : k ≤ 3) (hf : first < k) (hd : ss.don (true, first) = false)
    (hF : compF V e n k first ss.don ss.pq = some st) : compB B V e n k first ss.don ss.pq ss.sp = some st ∧ SolI B n k p s ⟨st.don, compPq B st, (compBk B st ss.sp).2⟩ := by
  have hu : ∀ i g, i < n → g < k → e.testBit (i * k + g) = true → 0 < useN V i g := fun i g hi hg hb => by
    have := hE.use hmk.us hi hg ((hm i g hi hg).1 hb)
    unfold useQ at this
    exact_mod_cast this
  have hpr : ∀ i g h, i < n → g < k → h < k → e.testBit (i * k + g) = true → e.testBit (i * k + h) = true → useQ V i h * p g = useQ V i g * p h := fun i g h hi hg hh b1 b2 => by
    have w1 := hE.want i g hi hg ((hm i g hi hg).1 b1) h hh
    have w2 := hE.want i h hi hh ((hm i h hi hh).1 b2) g hg
    grind
  have hp0 : p first ≠ 0 := by have := hE.pos first hf; grind
  have hall : ∀ x, TAll V e n k first (max n k) ss.don ss.pq p st 6 x 0 := TAll.srch hub hG (fun g hg => hE.pos g hg) hu hpr { s := SInv.start ss.don ss.pq (by omega), t := TInv.start hd hp0, old := fun i z hi => by omega, cur := fun y hy => by omega } 6 st hF
  have hA := hall (true, 0)
  have hl6 : st.ord.length ≤ 6 := by
    have := len_le hA.s.inv.nd hA.s.inv.rng
    omega
  have hseen : ∀ (i : Nat) (z : Nd), st.ord[i]? = some z → ∀ y, y < dimN n k z → Seen e n k first st i z y := fun i z hz y hy => by
    have hi := (List.getElem?_eq_some_iff.1 hz).1
    refine hA.old i z (by omega) hz y ?_
    unfold dimN at hy
    split at hy <;> omega
  have hT : TEnd V e n k first ss.don ss.pq p st := ⟨hA.s, hA.t, hseen⟩
  have hnd := hT.s.inv.nd
  have hrg := hT.s.inv.rng
  rw [hG] at hrg
  have hroot := List.mem_of_getElem? hT.s.inv.hd
  have hlp : 0 < st.ord.length := (List.getElem?_eq_some_iff.1 hT.s.inv.hd).1
  obtain ⟨X, hX⟩ : ∃ X, X = sumQ (fun h => one ((true, h) ∈ st.ord) * p h) k := ⟨_, rfl⟩
  have hX0 : 0 < X := by
    rw [hX]
    exact sq_pos (fun h hh => Rat.mul_nonneg (one_nn _) (Rat.le_of_lt (hE.pos h hh))) hf (by rw [one_t hroot]; have := hE.pos first hf; grind)
  have hbud : ((budOf B st.ord : Int) : Rat) = X := by
    rw [bud_sum (n := n) B st.ord hnd (fun i hi => hrg _ hi), hX]
    have e1 : sumQ (fun i => one ((false, i) ∈ st.ord) * budQ B i) n = sumQ (fun i => sumQ (fun h => one ((true, h) ∈ st.ord) * s i h) k) n := by
      refine sumQ_congr fun i hi => ?_
      rw [← hE.row i hi, ← sumQ_mul]
      refine sumQ_congr fun h hh => ?_
      by_cases h0 : s i h = 0
      · rw [h0]; grind
      · rw [one_iff (ord_closed hG hT hm hi hh h0)]
    rw [e1, sq_swap (fun i h => one ((true, h) ∈ st.ord) * s i h)]
    exact sumQ_congr fun h hh => by rw [sumQ_mul, hE.col h hh]
  have htot : totOf st.pq st.ord = X / p first := by
    rw [tot_sum (k := k) st.pq st.ord hnd (fun g hg => hrg _ hg), hX, Rat.div_def, ← sq_mulr]
    refine sumQ_congr fun h hh => ?_
    by_cases hm2 : (true, h) ∈ st.ord
    · rw [hT.t.pq h hm2, Rat.div_def]; grind
    · rw [one_f hm2]; grind
  have hfac : facOf B st = p first := by
    unfold facOf
    rw [hbud, htot]
    have h1 : X / p first ≠ 0 := by have := div_pos' hX0 (hE.pos first hf); grind
    have h2 : p first * (X / p first) = X := by rw [Rat.mul_comm]; exact div_mul' hp0
    generalize X / p first = y at *
    rw [← h2]
    grind
  have hb0 : budOf B st.ord ≠ 0 := by
    intro h0
    rw [h0] at hbud
    have : ((0 : Int) : Rat) = 0 := rfl
    grind
  have hpq : ∀ h, (true, h) ∈ st.ord → compPq B st h = p h := fun h hm2 => by
    unfold compPq scaTo
    rw [List.take_length, if_pos hm2, hT.t.pq h hm2, hfac]
    exact div_mul' hp0
  have hlf : ∀ y ∈ st.ord, lf0 B (compPq B st) y = totN (budQ B) p y := fun y hy => by
    obtain ⟨c, i⟩ := y
    cases c
    · rfl
    · exact hpq i hy
  obtain ⟨k1, k2, k3⟩ := bk_inv hG hT hm hE (sp := ss.sp) hlf (st.ord.length - 1) (by omega)
  have hz : (compBk B st ss.sp).1 (true, first) = 0 := by
    unfold compBk
    rw [k1 _ hroot]
    exact lfI_root hG hT hm
  refine ⟨by rw [compB_fin ss.sp hF hb0, decide_eq_true hz]; rfl, ?_⟩
  have hdn := hT.s.dn
  have hdrop : st.ord.length - (st.ord.length - 1) = 1 := by omega
  rw [hdrop] at k2
  constructor
  · intro i h hi hh h0
    show st.don (false, i) = true ↔ st.don (true, h) = true
    rw [hdn, hdn, hI.cl i h hi hh h0, ord_closed hG hT hm hi hh h0]
  · intro h hh hdh
    show compPq B st h = p h
    by_cases hm2 : (true, h) ∈ st.ord
    · exact hpq h hm2
    · have h1 : ss.don (true, h) = true := by
        rcases (hdn _).1 hdh with h1 | h1
        · exact h1
        · exact absurd h1 hm2
      unfold compPq scaTo
      rw [List.take_length, if_neg hm2, hT.s.pr h hm2]
      exact hI.pq h hh h1
  · intro i hi hdi h hh
    show (compBk B st ss.sp).2 i h = s i h
    by_cases hm2 : (false, i) ∈ st.ord
    · by_cases h0 : s i h = 0
      · rcases k3 i h with h1 | ⟨_, h1⟩
        · unfold compBk
          rw [h1, h0]
          exact hI.sp0 i hi (hT.t.new _ hm2) h hh
        · exact h1
      · obtain ⟨j, hj⟩ := List.getElem?_of_mem hm2
        rcases nbr hG hT hm hj (z := h) hh (by exact h0) with ⟨h1, h2⟩ | ⟨i2, h1, h2, h3⟩
        · have h4 := k2 (false, i) ((mem_drop hnd hj).2 h1)
          rw [← h2] at h4
          exact h4
        · have h4 := k2 (true, h) ((mem_drop hnd h2).2 (by omega))
          have h5 : st.par (true, h) = (false, i) := h3
          rw [h5] at h4
          exact h4
    · rcases k3 i h with h1 | ⟨h1, _⟩
      · unfold compBk
        rw [h1]
        refine hI.sp1 i hi ?_ h hh
        rcases (hdn _).1 hdi with h1 | h1
        · exact h1
        · exact absurd h1 hm2
      · exact absurd h1 hm2
  · intro i hi hdi h hh
    show (compBk B st ss.sp).2 i h = 0
    have hm2 : (false, i) ∉ st.ord := fun hm2 => by
      have h1 := (hdn (false, i)).2 (.inr hm2)
      have hdi' : st.don (false, i) = false := hdi
      rw [hdi'] at h1
      cases h1
    have hdi2 : ss.don (false, i) = false := by
      cases h1 : ss.don (false, i) with
      | false => rfl
      | true =>
        have h2 := (hdn (false, i)).2 (.inl h1)
        have hdi' : st.don (false, i) = false := hdi
        rw [hdi'] at h2
        cases h2
    rcases k3 i h with h1 | ⟨h1, _⟩
    · unfold compBk
      rw [h1]
      exact hI.sp0 i hi hdi2 h hh
    · exact absurd h1 hm2
theorem solve_found (hn : 1 ≤ n ∧ n ≤ 3) (hk : k ≤ 3) (hG : goodsN V = k) (hub : ∀ i g, 0 ≤ useN V i g ∧ useN V i g ≤ 20) (hmk : MkOk n k (budQ B) (useQ V)) (hE : Equi n k (budQ B) (useQ V) p s) (hm : MaskOf n k s e) :
    ∀ (g : Nat) (don : Nd → Bool), g ≤ k → strTo n k e g = some don → ∃ ss, solTo B V e n k g = some ss ∧ ss.don = don ∧ SolI B n k p s ss ∧ ∀ h, h < g → ss.don (true, h) = true
  | 0, don, _, h => by
    injection h with h
    exact ⟨sol0, rfl, h, SolI.zero, fun h hh => by omega⟩
  | g + 1, don, hg, h => by
    simp only [strTo] at h
    cases h1 : strTo n k e g with
    | none => rw [h1] at h; cases h
    | some d1 =>
      rw [h1] at h
      simp only [Option.bind_some] at h
      obtain ⟨ss, s1, s2, s3, s4⟩ := solve_found hn hk hG hub hmk hE hm g d1 (by omega) h1
      have hto : solTo B V e n k (g + 1) = solStep B V e n k g ss := by simp only [solTo, s1, Option.bind_some]
      by_cases hd : d1 (true, g) = true
      · rw [if_pos hd] at h
        injection h with h
        subst h
        refine ⟨ss, ?_, s2, s3, fun x hx => ?_⟩
        · rw [hto]
          unfold solStep
          rw [if_pos (by rw [s2]; exact hd)]
        · rcases Nat.lt_or_ge x g with h3 | h3
          · exact s4 x h3
          · rw [show x = g by omega, s2]; exact hd
      · rw [if_neg hd] at h
        cases h2 : compF (onesV n k) e n k g d1 (fun _ => 0) with
        | none => rw [h2] at h; cases h
        | some st' =>
          rw [h2] at h
          injection h with h
          have hu : ∀ i g, i < n → g < k → e.testBit (i * k + g) = true → useN V i g ≠ 0 := fun i g hi hg hb => by
            have := hE.use hmk.us hi hg ((hm i g hi hg).1 hb)
            unfold useQ at this
            have h3 : 0 < useN V i g := by exact_mod_cast this
            omega
          have hsame : Same (start0 ss.don ss.pq g) (start0 d1 (fun _ => 0) g) := ⟨rfl, rfl, by show upd ss.don _ _ = upd d1 _ _; rw [s2]⟩
          obtain ⟨st, h3, h4⟩ := same_srch hG (goodsN_ones hn.1) hu hsame 6 st' h2
          have hdf : ss.don (true, g) = false := by rw [s2]; simpa using hd
          obtain ⟨h5, h6⟩ := comp_found hG hub hmk hE hm s3 hn.2 hk (by omega) hdf h3
          have hi := compF_inv hub (by omega) h3
          refine ⟨_, ?_, ?_, h6, fun x hx => ?_⟩
          · rw [hto]
            unfold solStep
            rw [if_neg (by rw [hdf]; decide), h5]
            rfl
          · show st.don = don
            rw [h4.don]; exact h
          · show st.don (true, x) = true
            rw [hi.dn]
            rcases Nat.lt_or_ge x g with h7 | h7
            · exact .inl (s4 x h7)
            · exact .inr (by rw [show x = g by omega]; exact List.mem_of_getElem? hi.inv.hd)
end
theorem natBud {B : List Int} (h : ∀ b ∈ B, 1 ≤ b ∧ b ≤ 20) {i : Nat} (hi : i < B.length) : 0 < (B.getD i 0).toNat ∧ (((B.getD i 0).toNat : Nat) : Rat) = budQ B i := by
  have hb := h (B.getD i 0) (by
    rw [List.getD_eq_getElem?_getD, List.getElem?_eq_getElem hi]
    exact List.getElem_mem _)
  refine ⟨by omega, ?_⟩
  unfold budQ
  have : ((B.getD i 0).toNat : Int) = B.getD i 0 := Int.toNat_of_nonneg (by omega)
  rw [← this]
  rfl
theorem Equi.congr {n k : Nat} {b b' : Nat → Rat} {u : Nat → Nat → Rat} {p : Nat → Rat} {s : Nat → Nat → Rat} (h : Equi n k b u p s) (hb : ∀ i, i < n → b i = b' i) : Equi n k b' u p s := { h with row := fun i hi => by rw [h.row i hi, hb i hi] }
theorem equi_any {B : List Int} {V : List (List Int)} (hv : validM B V = true) : ∃ p s, Equi B.length (goodsN V) (budQ B) (useQ V) p s := by
  obtain ⟨hm, _, _⟩ := mkOk_of hv
  obtain ⟨⟨a1, a2, a3, a4⟩, b1, b2, b3⟩ := validM_iff.1 hv
  obtain ⟨p, s, h⟩ := exists_equi (n := B.length) (k := goodsN V) (b := fun i => (B.getD i 0).toNat) (u := useQ V) (by omega) (by omega) (fun i hi => (natBud a3 hi).1) hm.un hm.us hm.ug
  exact ⟨p, s, h.congr fun i hi => (natBud a3 hi).2⟩
/-- The program finds a balance of every valid market. -/
theorem found_any (B : List Int) (V : List (List Int)) : Found B V := by
  intro hv
  obtain ⟨hmk, hrow, hub⟩ := mkOk_of hv
  obtain ⟨⟨a1, a2, a3, a4⟩, b1, b2, b3⟩ := validM_iff.1 hv
  obtain ⟨p, s0, hE0⟩ := equi_any hv
  obtain ⟨s, e, hE, he, hm, hc⟩ := least_sp ⟨a1, a2⟩ b1 _ s0 hE0 (Nat.le_refl _)
  obtain ⟨don, hs⟩ := str_all ⟨a1, a2⟩ b1 he hc
  obtain ⟨ss, s1, s2, s3, s4⟩ := solve_found ⟨a1, a2⟩ b1.2 rfl hub hmk hE hm (goodsN V) don (Nat.le_refl _) hs
  have hbd : ∀ i, i < B.length → ss.don (false, i) = true := fun i hi => by
    have hex : ∃ h, h < goodsN V ∧ s i h ≠ 0 := by
      by_cases hx : ∃ h, h < goodsN V ∧ s i h ≠ 0
      · exact hx
      · exfalso
        have h1 := hE.row i hi
        rw [sumQ_zero fun h hh => by
          by_cases h0 : s i h = 0
          · exact h0
          · exact absurd ⟨h, hh, h0⟩ hx] at h1
        have := hmk.bp i hi
        grind
    obtain ⟨h, hh, h0⟩ := hex
    exact (s3.cl i h hi hh h0).2 (s4 h hh)
  have hall : allDon B.length ss = true := List.all_eq_true.2 fun i hi => hbd i (List.mem_range.1 hi)
  have hpq : ∀ g, g < goodsN V → priQ (solP (goodsN V) ss) g = p g := fun g hg => by
    unfold priQ solP
    rw [List.getD_eq_getElem?_getD, List.getElem?_map, List.getElem?_range hg]
    exact s3.pq g hg (s4 g hg)
  have hsp : ∀ i g, i < B.length → g < goodsN V → spd (solS B.length (goodsN V) ss) i g = s i g := fun i g hi hg => by
    unfold spd rowQ solS
    rw [List.getD_eq_getElem?_getD, List.getD_eq_getElem?_getD, List.getElem?_map, List.getElem?_range hi]
    simp only [Option.map_some, Option.getD_some]
    rw [List.getElem?_map, List.getElem?_range hg]
    exact s3.sp1 i hi (hbd i hi) g hg
  have hbal : balB B V (solP (goodsN V) ss) (solS B.length (goodsN V) ss) = true := by
    refine (bal_equi rfl (by simp [solP]) (fun q hq => ?_) hrow (fun i g => (hub i g).1)).2 ?_
    · obtain ⟨g, hg, rfl⟩ := List.mem_map.1 hq
      rw [s3.pq g (List.mem_range.1 hg) (s4 g (List.mem_range.1 hg))]
      exact hE.pos g (List.mem_range.1 hg)
    · exact {
        pos := fun g hg => by rw [hpq g hg]; exact hE.pos g hg
        nn := fun i g hi hg => by rw [hsp i g hi hg]; exact hE.nn i g hi hg
        row := fun i hi => by rw [← hE.row i hi]; exact sumQ_congr fun g hg => hsp i g hi hg
        col := fun g hg => by rw [hpq g hg, ← hE.col g hg]; exact sumQ_congr fun i hi => hsp i g hi hg
        want := fun i g hi hg h0 h hh => by
          rw [hpq g hg, hpq h hh]
          rw [hsp i g hi hg] at h0
          exact hE.want i g hi hg h0 h hh }
  have hF : ∃ r, solF B V e B.length (goodsN V) = some r := by
    unfold solF
    rw [s1]
    simp only [hall, hbal, Bool.and_self, if_true]
    exact ⟨_, rfl⟩
  obtain ⟨r, hr⟩ := hF
  have hto : ∃ r', balTo B V B.length (goodsN V) (e + 1) = some r' := by
    simp only [balTo]
    cases h1 : balTo B V B.length (goodsN V) e with
    | some r' => exact ⟨r', rfl⟩
    | none => exact ⟨r, hr⟩
  obtain ⟨r', hr'⟩ := hto
  exact ⟨r', balTo_some hr' _ (by omega)⟩

/- Contract: read of package market. -/

/-- A fraction that may be given. -/
def okLow (a b : Int) : Bool := decide (lowN a b = a) && decide (lowD a b = b)
def okF (least : Int) (p : Int × Int) : Bool := decide (least ≤ p.1) && (decide (p.1 ≤ 1048576) && (decide (1 ≤ p.2) && (decide (p.2 ≤ 1048576) && okLow p.1 p.2)))
theorem okLow_iff {a b : Int} (hb : 1 ≤ b) : okLow a b = true ↔ Int.gcd a b = 1 := by
  unfold okLow lowN lowD
  rw [Bool.and_eq_true, decide_eq_true_eq, decide_eq_true_eq]
  constructor
  · rintro ⟨h1, h2⟩
    have := rat_lowest (Rat.divInt a b)
    rwa [h1, h2] at this
  · intro h; exact num_low (by omega) h
theorem okF_iff {least a b : Int} : okF least (a, b) = true ↔ least ≤ a ∧ a ≤ 1048576 ∧ 1 ≤ b ∧ b ≤ 1048576 ∧ Int.gcd a b = 1 := by
  unfold okF
  simp only [Bool.and_eq_true, decide_eq_true_eq]
  constructor
  · rintro ⟨h1, h2, h3, h4, h5⟩; exact ⟨h1, h2, h3, h4, (okLow_iff h3).1 h5⟩
  · rintro ⟨h1, h2, h3, h4, h5⟩; exact ⟨h1, h2, h3, h4, (okLow_iff h3).2 h5⟩
theorem run_ne_pair (a b c d : Int) (w : World) : (binOp .neq 77 (.agg #[.int .i64 a, .int .i64 b]) (.agg #[.int .i64 c, .int .i64 d])).run Try.prog w = .ok (.bool (!(decide (c = a) && decide (d = b)))) w := by
  by_cases h1 : a = c
  · by_cases h2 : b = d
    · simp only [h1, h2]; go_simp
    · have h3 : ¬ d = b := fun h => h2 h.symm
      simp only [h1, decide_eq_false h3]; go_simp
  · have h3 : ¬ c = a := fun h => h1 h.symm
    simp only [decide_eq_false h3]; go_simp
/-- What read returns. -/
def ReadPost (ps : List (Int × Int)) (nn least : Int) (w : World) (e : Ending) (w' : World) : Prop :=
  Below w.heap.size w w' ∧ ((ps.all (okF least) = true ∧ ∃ A' c', e = .returned (.tuple #[.slice A' ps.length c', .bool (decide ((ps.length : Int) = nn))]) ∧ w'.ownsRow w.heap.size 77 2 (.slice A' ps.length c') ps.length (pcells ps)) ∨ (ps.all (okF least) = false ∧ e = .returned (.tuple #[.slice none 0 0, .bool false])))
set_option maxRecDepth 100000 in
set_option maxHeartbeats 4000000 in
theorem mread_any (A : Option Addr) (n cap : Nat) (ps : List (Int × Int)) (nn least : Int) (w : World) (hl : ps.length = n) (hn : n ≤ 1000) (h : Prs w A ps)
    (hr : ∀ p ∈ ps, (-9223372036854775808 ≤ p.1 ∧ p.1 ≤ 9223372036854775807) ∧ -9223372036854775808 ≤ p.2 ∧ p.2 ≤ 9223372036854775807) (hle : 0 ≤ least) :
    Calls Try.prog 52 #[.slice A n cap, .int .i64 nn, .int .i64 least] w (ReadPost ps nn least w) := by
  have hI := fun (hp : 0 < ps.length) => h.some_ hp
  have H := Lib.hid (And.intro hl (And.intro hI hr))
  clear hl h hI hr
  go_enter Try.func52, Try.ntmps52
  go_wp2_with fail
  go_loopw [8, 14] (fun ov iv wr => ∃ (k : Nat) (A2 : Option Addr) (c2 : Nat), k ≤ n ∧ iv = .int .i64 k ∧ ov = .slice A2 k c2 ∧ (ps.take k).all (okF least) = true ∧ wr.ownsRow w.heap.size 77 2 (.slice A2 k c2) k ((pcells ps).take (k * 2)) ∧ Below w.heap.size w wr) (fun _ iv _ => n - (intOf iv).toNat)
  case atStart => exact ⟨0, none, 0, Nat.zero_le _, rfl, rfl, by simp, by simpa using World.ownsRow_nil _ _ _ _, Below.refl _ _⟩
  case round =>
    obtain ⟨k, A2, c2, hk, rfl, rfl, ha, hown, hbl⟩ := hrel
    have HR := Lib.hid (And.intro hown (And.intro hbl ha))
    clear hown hbl ha
    by_cases hlt : k < n
    · obtain ⟨ad, rfl, _, hc⟩ := H.out.2.1 (by rw [H.out.1]; omega)
      obtain ⟨⟨a, b⟩, hp⟩ : ∃ p, ps[k]? = some p := ⟨_, List.getElem?_eq_getElem (by rw [H.out.1]; exact hlt)⟩
      obtain ⟨g1, g2⟩ := hc k _ hp
      obtain ⟨ra, rb⟩ := H.out.2.2 _ (List.mem_of_getElem? hp)
      have c0 := (HR.out.2.1.cell (lt_of_cell g1)).trans g1
      have c1 := (HR.out.2.1.cell (lt_of_cell g2)).trans g2
      simp only at c0 c1 ra rb
      obtain ⟨w2, hw2⟩ : ∃ w2, w2 = (wr.alloc (.cells #[.int .i64 a, .int .i64 b] 37)).alloc (.cells #[.int .i64 a, .int .i64 b] 77) := ⟨_, rfl⟩
      have hbz : Below wr.heap.size wr w2 := by rw [hw2]; exact ((Below.refl _ _).alloc (Nat.le_refl _) _).alloc (by simp) _
      have hB2 : Blk w2 (wr.heap.size + 1) 77 #[.int .i64 a, .int .i64 b] := by rw [hw2]; exact Blk.new _ _ _ (by simp)
      have hown2 := own_below HR.out.1 hbz
      have HX := Lib.hid (And.intro hown2 (And.intro (HR.out.2.1.trans (hbz.mono HR.out.2.1.size)) (And.intro hB2 hp)))
      have hsz : w.heap.size ≤ wr.heap.size := HR.out.2.1.size
      have hz2 := hB2.lt
      have hbad : okF least (a, b) = false → ps.all (okF least) = false := fun h => by
        rw [List.all_eq_false]; exact ⟨_, List.mem_of_getElem? hp, by simp [h]⟩
      have HBAD := Lib.hid hbad
      have HNEW : Hid ((pcells ps).take ((k + 1) * 2) = (pcells ps).take (k * 2) ++ [.int .i64 a, .int .i64 b]) := Lib.hid (by
        rw [← pcells_take, ← pcells_take, take_snoc hp, pcells_snoc])
      clear hc hp g1 g2 hown2 hbz hB2 hbad
      by_cases q1 : a < least
      · have p1 : decide (a < least) = true := decide_eq_true q1
        have HF := Lib.hid (HBAD.out (by simp [okF]; intro; omega))
        go_wp2_with fail
        go_quiet (fail)
        rw [← hw2]
        go_wp2_with fail
        go_ret2
        exact ⟨below_drewN HX.out.2.1 nq, .inr ⟨HF.out, rfl⟩⟩
      · have p1 : decide (a < least) = false := decide_eq_false q1
        by_cases q2 : 1048576 < a
        · have p2 : decide (1048576 < a) = true := decide_eq_true q2
          have HF := Lib.hid (HBAD.out (by simp [okF]; intros; omega))
          go_wp2_with fail
          go_quiet (fail)
          rw [← hw2]
          go_wp2_with fail
          go_ret2
          exact ⟨below_drewN HX.out.2.1 nq, .inr ⟨HF.out, rfl⟩⟩
        · have p2 : decide (1048576 < a) = false := decide_eq_false q2
          by_cases q3 : b < 1
          · have p3 : decide (b < 1) = true := decide_eq_true q3
            have HF := Lib.hid (HBAD.out (by simp [okF]; intros; omega))
            go_wp2_with fail
            go_quiet (fail)
            rw [← hw2]
            go_wp2_with fail
            go_ret2
            exact ⟨below_drewN HX.out.2.1 nq, .inr ⟨HF.out, rfl⟩⟩
          · have p3 : decide (b < 1) = false := decide_eq_false q3
            by_cases q4 : 1048576 < b
            · have p4 : decide (1048576 < b) = true := decide_eq_true q4
              have HF := Lib.hid (HBAD.out (by simp [okF]; intros; omega))
              go_wp2_with fail
              go_quiet (fail)
              rw [← hw2]
              go_wp2_with fail
              go_ret2
              exact ⟨below_drewN HX.out.2.1 nq, .inr ⟨HF.out, rfl⟩⟩
            · have p4 : decide (1048576 < b) = false := decide_eq_false q4
              have hlow : LowOk a b := ⟨by omega, by omega, by omega, by omega⟩
              have hne := run_ne_pair a b (lowN a b) (lowD a b)
              have HLW : Hid (∀ sd : Desc w2, Calls Try.prog 65 #[.agg #[.int .i64 a, .int .i64 b]] sd.val fun e w'' => e = .returned (.agg #[.int .i64 (lowN a b), .int .i64 (lowD a b)]) ∧ ∃ s' : Desc w2, w'' = s'.val) := Lib.hid fun sd => Calls.desc_of (mlowest_low a b _ hlow)
              have hok : okF least (a, b) = (decide (lowN a b = a) && decide (lowD a b = b)) := by
                unfold okF okLow
                rw [decide_eq_true (show least ≤ a by omega), decide_eq_true (show a ≤ 1048576 by omega), decide_eq_true (show 1 ≤ b by omega), decide_eq_true (show b ≤ 1048576 by omega)]
                rfl
              rw [← hok] at hne
              obtain ⟨z, hz⟩ : ∃ z, z = okF least (a, b) := ⟨_, rfl⟩
              rw [← hz] at hne
              have HZ := Lib.hid hz
              clear hlow hok hz
              go_wp2_with fail
              rw [← hw2]
              obtain ⟨x0, x1, _, _⟩ := HX.out.2.2.1.at2
              have e0 : ∀ s : Desc w2, s.val.cell? ⟨wr.heap.size + 1, 0, none⟩ = some (.int .i64 a) := fun s => s.cell x0
              have e1 : ∀ s : Desc w2, s.val.cell? ⟨wr.heap.size + 1, 1, none⟩ = some (.int .i64 b) := fun s => s.cell x1
              clear x0 x1 hw2
              refine wp_region_desc (by kernel_rfl) (by kernel_rfl) ?_
              repeat (go_big_quiet_step (first | (go_at_call 65; exact HLW.out _)))
              refine wpQuiet_nil ?_
              rintro _ ⟨sd, rfl⟩
              have hb3 := sd.below
              generalize sd.val = w4 at hb3 ⊢
              have hown4 := own_below HX.out.1 hb3
              have hbl4 := HX.out.2.1.trans (hb3.mono HX.out.2.1.size)
              have hB4 := HX.out.2.2.1.below hb3 hz2
              obtain ⟨y0, y1, _, _⟩ := hB4.at2
              have H4 := Lib.hid (And.intro hown4 hbl4)
              have hsz4 : w.heap.size ≤ w4.heap.size := hbl4.size
              clear e0 e1 hb3 hown4 hbl4 hB4 hne
              cases z
              · have HF := Lib.hid (HBAD.out HZ.out.symm)
                go_wp2_with fail
                go_ret2
                exact ⟨H4.out.2, .inr ⟨HF.out, rfl⟩⟩
              · have HT : Hid ((ps.take (k + 1)).all (okF least) = true) := Lib.hid (by
                  rw [take_snoc HX.out.2.2.2, List.all_append, HR.out.2.2]; simp [← HZ.out])
                go_wp2_with (at_builtin; refine app1g sty_mfrac rfl _ _ rfl w.heap.size A2 k c2 _ #[.int .i64 a, .int .i64 b] rfl (by simp [Value.oneCell']) rfl H4.out.1 _ rfl (by simp) (by omega) hsz4 ?_)
                intro A5 k5 w5 hown5 _ hbl5 hk51 hk52
                rw [← HNEW.out] at hown5
                have HR5 := Lib.hid (And.intro hown5 (H4.out.2.trans hbl5))
                clear hown5 hbl5
                go_wp2_with fail
                go_roundw
                case rel => exact ⟨k + 1, A5, k5, by omega, by go_num, rfl, HT.out, HR5.out.1, HR5.out.2⟩
                case measure => simp [intOf]; omega
    · obtain rfl : n = k := by omega
      have hall : ps.all (okF least) = true := by have h := HR.out.2.2; rwa [List.take_of_length_le (by rw [H.out.1]; exact Nat.le_refl _)] at h
      have h := HR.out.1
      rw [List.take_of_length_le (by rw [pcells_length, H.out.1]; exact Nat.le_refl _)] at h
      have HE := Lib.hid (And.intro hall h)
      clear hall h
      go_wp2_with fail
      go_ret2
      refine ⟨HR.out.2.1, .inl ⟨HE.out.1, A2, c2, ?_, by rw [H.out.1]; exact HE.out.2⟩⟩
      rw [H.out.1]
      rfl

/- Contract: Want of package market. -/

theorem info_int9 : (Try.prog.info? 3).map (fun i => (i.zero, i.size, i.bytes)) = some (some (.int .i64 0), 1, 8) := by kernel_rfl
theorem sty_ints9 : STy 22 3 (.int .i64 0) 1 8 := ⟨Try.underlying22, info_int9, rfl, by decide, by decide⟩
/-- The fractions that are given. -/
def toQ (ps : List (Int × Int)) : List Rat := ps.map fun p => Rat.divInt p.1 p.2
theorem pr_divInt {least a b : Int} (h : okF least (a, b) = true) : (Rat.divInt a b).num = a ∧ ((Rat.divInt a b).den : Int) = b := by
  obtain ⟨_, _, h3, _, h5⟩ := okF_iff.1 h
  exact num_low (by omega) h5
theorem toQ_pr {least : Int} {ps : List (Int × Int)} (h : ps.all (okF least) = true) : (toQ ps).map pr = ps := by
  unfold toQ
  rw [List.map_map]
  conv => rhs; rw [← List.map_id ps]
  refine List.map_congr_left fun p hp => ?_
  obtain ⟨a, b⟩ := p
  have := pr_divInt (List.all_eq_true.1 h _ hp)
  exact Prod.ext this.1 this.2
theorem toQ_ok {ps : List (Int × Int)} (h : ps.all (okF 1) = true) : ∀ q ∈ toQ ps, PrOk q := by
  intro q hq
  obtain ⟨⟨a, b⟩, hp, rfl⟩ := List.mem_map.1 hq
  have h1 := List.all_eq_true.1 h _ hp
  have := pr_divInt h1
  obtain ⟨a1, a2, a3, a4, _⟩ := okF_iff.1 h1
  unfold PrOk
  rw [this.1, this.2]
  exact ⟨a1, a2, a4⟩
theorem toQ_sp {ps : List (Int × Int)} (h : ps.all (okF 0) = true) : ∀ q ∈ toQ ps, SpB q ∧ 0 ≤ q.num := by
  intro q hq
  obtain ⟨⟨a, b⟩, hp, rfl⟩ := List.mem_map.1 hq
  have h1 := List.all_eq_true.1 h _ hp
  have := pr_divInt h1
  obtain ⟨a1, a2, a3, a4, _⟩ := okF_iff.1 h1
  unfold SpB
  rw [this.1, this.2]
  omega
theorem toQ_length (ps : List (Int × Int)) : (toQ ps).length = ps.length := by simp [toQ]
/-- The sets that buyers want, if the market and the prices are valid. -/
def prsOk (V : List (List Int)) (ps : List (Int × Int)) : Bool := ps.all (okF 1) && decide (ps.length = goodsN V)
def wantF (B : List Int) (V : List (List Int)) (ps : List (Int × Int)) : Option (List Nat) :=
  if validM B V && prsOk V ps then some ((List.range B.length).map fun i => wantS (rowV V i) (toQ ps)) else none
def wantL (V : List (List Int)) (ps : List (Int × Int)) (m : Nat) : List Value := (List.range m).map fun i => Value.int .i64 ((wantS (rowV V i) (toQ ps) : Nat) : Int)
def WantPost (B : List Int) (V : List (List Int)) (ps : List (Int × Int)) (w : World) (x : Ending) (w' : World) : Prop :=
  Below w.heap.size w w' ∧ match wantF B V ps with
    | none => x = .returned (.tuple #[.slice none 0 0, .int .i64 2])
    | some l => ∃ A' c', x = .returned (.tuple #[.slice A' l.length c', .int .i64 0]) ∧ At w' A' (l.map fun (s : Nat) => Value.int .i64 (s : Int))
set_option maxRecDepth 100000 in
set_option maxHeartbeats 1600000 in
theorem mwant_any (A : Option Addr) (n c : Nat) (U : Option Addr) (m d : Nat) (P : Option Addr) (lp cp : Nat) (B : List Int) (V : List (List Int)) (ps : List (Int × Int)) (w : World) (h : MktAt w A n U m B V) (hn : n ≤ 1000) (hm : m ≤ 1000) (hr : ∀ r ∈ V, r.length ≤ 1000)
    (hP : Prs w P ps) (hlp : ps.length = lp) (hlp2 : lp ≤ 1000) (hi : I64s ps) :
    Calls Try.prog 32 #[mktV A n c U m d, .slice P lp cp] w (WantPost B V ps w) := by
  subst hlp
  have hb1 : Below w.heap.size w (w.alloc (.cells #[.slice A n c, .slice U m d] 30)) := (Below.refl _ _).alloc (Nat.le_refl _) _
  have hM1 : Blk (w.alloc (.cells #[.slice A n c, .slice U m d] 30)) w.heap.size 30 #[.slice A n c, .slice U m d] := Blk.new _ _ _ rfl
  have HV := Lib.hid (mvalid_any A n c U m d B V _ (h.below hb1) hn hm hr)
  have H := Lib.hid (And.intro h (And.intro hP (And.intro hb1 (And.intro hM1 hi))))
  clear h hP hb1 hM1 hi
  unfold mktV
  go_enter Try.func32, Try.ntmps32
  go_wp2_with fail
  refine HV.out.mono ?_
  rintro e w2 ⟨rfl, hb2⟩
  have hM2 := H.out.2.2.2.1.below hb2 (by simp)
  have hbw := H.out.2.2.1.trans (hb2.mono H.out.2.2.1.size)
  obtain ⟨m1, m2, _, _⟩ := hM2.at2
  have H2 := Lib.hid (And.intro hM2 hbw)
  clear hM2 hbw hb2 HV
  cases hv : validM B V with
  | false =>
    have HP : Hid (wantF B V ps = none) := Lib.hid (by unfold wantF; rw [hv]; rfl)
    clear hv
    go_wp2_with fail
    go_ret2
    exact ⟨H2.out.2, by rw [HP.out]; rfl⟩
  | true =>
    obtain ⟨rfl, hmk⟩ := mkIn_of H.out.1 hv
    have HG : Hid (Calls Try.prog 53 #[.agg #[.slice A m c, .slice U m d]] w2 fun e w'' => e = .returned (.int .i64 (goodsN V : Nat)) ∧ Below w2.heap.size w2 w'') := Lib.hid (mgoods_any A m c U m d B V w2 (H.out.1.below H2.out.2) hmk.hn.1)
    have hBm := H.out.1.hB
    have HMK := Lib.hid (And.intro hmk hv)
    have hm3 := hmk.hn
    have hk3 := hmk.hk
    clear hv hmk
    go_wp2_with fail
    refine HG.out.mono ?_
    rintro e w3 ⟨rfl, hb3⟩
    have hbw3 := H2.out.2.trans (hb3.mono H2.out.2.size)
    have HRD : Hid (Calls Try.prog 52 #[.slice P ps.length cp, .int .i64 (goodsN V : Nat), .int .i64 1] w3 (ReadPost ps (goodsN V : Nat) 1 w3)) := Lib.hid (mread_any P ps.length cp ps (goodsN V : Nat) 1 w3 rfl hlp2 (H.out.2.1.below hbw3) H.out.2.2.2.2 (by decide))
    have H3 := Lib.hid (And.intro (H2.out.1.below hb3 (by have := H2.out.1.lt; omega)) hbw3)
    clear hb3 hbw3 m1 m2 HG
    go_wp2_with fail
    refine HRD.out.mono ?_
    intro ev w4 hpost
    obtain ⟨hb4, hcase⟩ := hpost
    have hbw4 := H3.out.2.trans (hb4.mono H3.out.2.size)
    have hM4 := H3.out.1.below hb4 H3.out.1.lt
    have H4 := Lib.hid (And.intro hM4 hbw4)
    obtain ⟨m1, m2, _, _⟩ := hM4.at2
    have hs3 := H3.out.2.size
    have hs4 := hb4.size
    clear hb4 hbw4 hM4 HRD
    rcases hcase with ⟨hall, A', c', rfl, hown⟩ | ⟨hall, rfl⟩
    · by_cases hlen : ps.length = goodsN V
      · have HOK : Hid (wantF B V ps = some ((List.range B.length).map fun i => wantS (rowV V i) (toQ ps))) := Lib.hid (by
          unfold wantF prsOk
          rw [HMK.out.2, hall, decide_eq_true hlen]; rfl)
        have hfr : Fracs w4 A' (toQ ps) := by
          unfold Go.Proofs.Ytnljnjnmhbkdoaa.Fracs
          rw [toQ_pr hall]
          exact At.of_own hown
        have HF := Lib.hid (And.intro hfr (toQ_ok hall))
        have hdt : decide ((ps.length : Int) = (goodsN V : Nat)) = true := decide_eq_true (by omega)
        rw [hdt]
        have HLEN := Lib.hid hlen
        clear hall hown hfr hdt hlen
        go_wp2_with fail
        go_loopw [8, 25] (fun ov iv wx => ∃ (i : Nat) (A2 : Option Addr) (c2 : Nat), i ≤ m ∧ iv = .int .i64 i ∧ ov = .slice A2 i c2 ∧ wx.ownsRow w4.heap.size 3 1 (.slice A2 i c2) i ((wantL V ps m).take i) ∧ Below w4.heap.size w4 wx) (fun _ iv _ => m - (intOf iv).toNat)
        case atStart => exact ⟨0, none, 0, Nat.zero_le _, rfl, rfl, by simpa using World.ownsRow_nil _ _ _ _, Below.refl _ _⟩
        case round =>
          obtain ⟨i, A2, c2, hi, rfl, rfl, hown, hbl⟩ := hrel
          have HR := Lib.hid (And.intro hown hbl)
          clear hown hbl
          by_cases him : i < m
          · have hbw5 := H4.out.2.trans (HR.out.2.mono H4.out.2.size)
            obtain ⟨q1, q2, _, _⟩ := (H4.out.1.below HR.out.2 H4.out.1.lt).at2
            have HWT : Hid (Calls Try.prog 54 #[.agg #[.slice A m c, .slice U m d], .int .i64 i, .slice A' ps.length c'] wr fun e w' => e = .returned (.int .i64 (wantS (rowV V i) (toQ ps) : Nat)) ∧ Below wr.heap.size wr w') := Lib.hid (mwants_any A m c U m d i A' ps.length c' B V (toQ ps) wr (H.out.1.below hbw5) hm him (by rw [toQ_length]) (by rw [HLEN.out]; omega) (by rw [HLEN.out]; exact HMK.out.1.rows _ (List.mem_of_getElem? (rowV_some (by rw [H.out.1.hV]; exact him)))) HF.out.2 (HF.out.1.below HR.out.2))
            have HNX : Hid ((wantL V ps m).take (i + 1) = (wantL V ps m).take i ++ [Value.int .i64 ((wantS (rowV V i) (toQ ps) : Nat) : Int)]) := Lib.hid (by
              unfold wantL
              rw [List.take_add_one, List.getElem?_map, List.getElem?_range him]; rfl)
            obtain ⟨s, hs⟩ : ∃ s, s = wantS (rowV V i) (toQ ps) := ⟨_, rfl⟩
            rw [← hs] at HNX HWT
            clear m1 m2 hbw5 hs
            go_wp2_with fail
            refine HWT.out.mono ?_
            rintro e w6 ⟨rfl, hb6⟩
            have H6 := Lib.hid (And.intro (own_below HR.out.1 hb6) (HR.out.2.trans (hb6.mono HR.out.2.size)))
            have hsz : w4.heap.size ≤ w6.heap.size := H6.out.2.size
            clear hb6 HWT q1 q2
            go_wp2_with (at_builtin; refine app1g sty_ints9 rfl _ _ rfl w4.heap.size A2 i c2 _ #[.int .i64 (s : Int)] rfl (by simp [Value.oneCell']) rfl H6.out.1 _ rfl (by simp) (by omega) hsz ?_)
            intro A5 k5 w7 hown7 _ hbl7 hk71 hk72
            rw [← HNX.out] at hown7
            have H7 := Lib.hid (And.intro hown7 (H6.out.2.trans hbl7))
            clear hown7 hbl7
            go_wp2_with fail
            go_roundw
            case rel => exact ⟨i + 1, A5, k5, by omega, by go_num, rfl, H7.out.1, H7.out.2⟩
            case measure => simp [intOf]; omega
          · obtain rfl : m = i := by omega
            go_wp2_with fail
            go_ret2
            refine ⟨H4.out.2.trans (HR.out.2.mono H4.out.2.size), ?_⟩
            rw [HOK.out]
            refine ⟨A2, c2, by rw [List.length_map, List.length_range, hBm]; rfl, ?_⟩
            have := HR.out.1
            rw [List.take_of_length_le (by simp [wantL])] at this
            rw [hBm, List.map_map]
            exact At.of_own this
      · have HNO : Hid (wantF B V ps = none) := Lib.hid (by
          unfold wantF prsOk
          rw [decide_eq_false hlen, Bool.and_false, Bool.and_false]; rfl)
        have hdt : decide ((ps.length : Int) = (goodsN V : Nat)) = false := decide_eq_false (by omega)
        rw [hdt]
        clear hall hown hdt hlen
        go_wp2_with fail
        go_ret2
        exact ⟨H4.out.2, by rw [HNO.out]; rfl⟩
    · have HNO : Hid (wantF B V ps = none) := Lib.hid (by
        unfold wantF prsOk
        rw [hall, Bool.false_and, Bool.and_false]; rfl)
      clear hall
      go_wp2_with fail
      go_ret2
      exact ⟨H4.out.2, by rw [HNO.out]; rfl⟩

/- What a slice of slices of fractions holds. -/

/-- One of the inner slices: it holds pairs, and lies where the row that holds the slices cannot. -/
def FRow1 (te : TypeId) (w : World) (b : Nat) (v : Value) (ps : List (Int × Int)) : Prop :=
  ∃ A c, v = .slice A ps.length c ∧ Prs w A ps ∧ ∀ ad, A = some ad → ad.block < b ∨ ∃ cs f, w.heap[ad.block]? = some (.cells cs te f)
def FRows (te : TypeId) (w : World) (b : Nat) (vs : List Value) (L : List (List (Int × Int))) : Prop :=
  vs.length = L.length ∧ ∀ (j : Nat) (ps : List (Int × Int)), L[j]? = some ps → ∃ v, vs[j]? = some v ∧ FRow1 te w b v ps
theorem FRow1.below {te : TypeId} {w w' : World} {b : Nat} {v : Value} {ps : List (Int × Int)} (h : FRow1 te w b v ps) (hb : Below w.heap.size w w') : FRow1 te w' b v ps := by
  obtain ⟨A, c, hv, h3, h4⟩ := h
  refine ⟨A, c, hv, h3.below hb, fun ad hA => ?_⟩
  rcases h4 ad hA with h | ⟨cs, f, h⟩
  · exact .inl h
  · exact .inr ⟨cs, f, (hb.block _ (lt_of_block h)).trans h⟩
theorem FRow1.of_own {te : TypeId} {w : World} {base n c : Nat} {A : Option Addr} {ps : List (Int × Int)} (h : w.ownsRow base te 2 (.slice A n c) n (pcells ps)) (hl : ps.length = n) (b : Nat) : FRow1 te w b (.slice A n c) ps := by
  subst hl
  refine ⟨A, c, rfl, At.of_own h, fun ad hA => .inr ?_⟩
  rcases h.2 with ⟨h0, _⟩ | ⟨g, cap, cur, hv, _, hg, _⟩
  · rw [hA] at h0; cases h0
  · rw [hA] at hv
    injection hv with e1 _ _
    injection e1 with e1
    subst e1
    exact ⟨cur, _, hg⟩
theorem FRow1.grown {te tq : TypeId} (hte : te ≠ tq) {w w' : World} {b base n : Nat} {v v' : Value} {ps : List (Int × Int)} {xs : List Value} (h : FRow1 te w b v ps) (hown : w.ownsRow base tq 1 v' n xs) (hb : b ≤ base) (hg : w.grownBy w' v'.ownBlock) : FRow1 te w' b v ps := by
  obtain ⟨A, c, hv, h3, h4⟩ := h
  have key : ∀ ad, A = some ad → (ad.block < b ∨ ∃ cs f, w.heap[ad.block]? = some (.cells cs te f)) → some ad.block ≠ v'.ownBlock := by
    intro ad hA hc he
    rcases hown.2 with ⟨h0, _⟩ | ⟨g, cap, cur, hv', hbg, hgg, _⟩
    · subst h0; cases he
    · subst hv'
      injection he with he
      rcases hc with hc | ⟨cs, f, hc⟩
      · have : ad.block = g := he
        omega
      · have : ad.block = g := he
        rw [this, hgg] at hc
        injection hc with hc
        injection hc with _ hc _
        exact absurd hc.symm hte
  refine ⟨A, c, hv, ?_, fun ad hA => ?_⟩
  · intro i u hu
    obtain ⟨ad, hA, hcell⟩ := h3 i u hu
    refine ⟨ad, hA, hg.cell hcell ?_⟩
    rw [add_block]
    exact key ad hA (h4 ad hA)
  · rcases h4 ad hA with h | ⟨cs, f, h⟩
    · exact .inl h
    · exact .inr ⟨cs, f, (hg.block _ (lt_of_block h) (key ad hA (h4 ad hA))).trans h⟩
theorem FRow1.far {te t : TypeId} (hte : te ≠ t) {w : World} {g : Nat} {cs : Array Value} {v : Value} {ps : List (Int × Int)} (h : FRow1 te w 0 v ps) (hB : Blk w g t cs) {p : Addr} (hp : p.block = g) (u : Value) : FRow1 te (w.setCell p u) 0 v ps := by
  obtain ⟨A, c, hv, h3, h4⟩ := h
  have key : ∀ ad, A = some ad → ad.block ≠ p.block := by
    intro ad hA he
    rcases h4 ad hA with h | ⟨cs', f, h⟩
    · omega
    · rw [he, hp] at h
      have hB' : w.heap[g]? = some (.cells cs t (0, 0)) := hB
      rw [hB'] at h
      injection h with h
      injection h with _ h _
      exact hte h.symm
  refine ⟨A, c, hv, ?_, fun ad hA => ?_⟩
  · intro i x hx
    obtain ⟨ad, hA, hcell⟩ := h3 i x hx
    refine ⟨ad, hA, (World.cell?_of_block (w := w) (a := ad.add i) (by rw [add_block]; exact Below.heap_setCell w p u _ (key ad hA))).trans hcell⟩
  · rcases h4 ad hA with h | ⟨cs', f, h⟩
    · exact .inl h
    · exact .inr ⟨cs', f, (Below.heap_setCell w p u _ (key ad hA)).trans h⟩
theorem FRows.far {te t : TypeId} (hte : te ≠ t) {w : World} {g : Nat} {cs : Array Value} {vs : List Value} {L : List (List (Int × Int))} (h : FRows te w 0 vs L) (hB : Blk w g t cs) {p : Addr} (hp : p.block = g) (u : Value) : FRows te (w.setCell p u) 0 vs L :=
  ⟨h.1, fun j os hj => by obtain ⟨v, hv, hr⟩ := h.2 j os hj; exact ⟨v, hv, hr.far hte hB hp u⟩⟩
section
variable {te tq : TypeId} {w w' : World} {b : Nat} {vs vs' : List Value} {L L' : List (List (Int × Int))}
theorem FRows.nil : FRows te w b [] [] := ⟨rfl, fun j os h => by simp at h⟩
theorem FRows.below (h : FRows te w b vs L) (hb : Below w.heap.size w w') : FRows te w' b vs L :=
  ⟨h.1, fun j os hj => by obtain ⟨v, hv, hr⟩ := h.2 j os hj; exact ⟨v, hv, hr.below hb⟩⟩
theorem FRows.grown (hte : te ≠ tq) {base n : Nat} {v' : Value} {xs : List Value} (h : FRows te w b vs L) (hown : w.ownsRow base tq 1 v' n xs) (hb : b ≤ base) (hg : w.grownBy w' v'.ownBlock) : FRows te w' b vs L :=
  ⟨h.1, fun j os hj => by obtain ⟨v, hv, hr⟩ := h.2 j os hj; exact ⟨v, hv, hr.grown hte hown hb hg⟩⟩
theorem FRows.append (h : FRows te w b vs L) (h' : FRows te w b vs' L') : FRows te w b (vs ++ vs') (L ++ L') := by
  refine ⟨by rw [List.length_append, List.length_append, h.1, h'.1], fun j os hj => ?_⟩
  by_cases hlt : j < L.length
  · rw [List.getElem?_append_left hlt] at hj
    rw [List.getElem?_append_left (by rw [h.1]; exact hlt)]
    exact h.2 j os hj
  · rw [List.getElem?_append_right (by omega)] at hj
    rw [List.getElem?_append_right (by rw [h.1]; omega), h.1]
    exact h'.2 _ os hj
theorem FRows.one_ {v : Value} {ps : List (Int × Int)} (h : FRow1 te w b v ps) : FRows te w b [v] [ps] :=
  ⟨rfl, fun j x hj => by cases j with
    | zero => simp at hj; subst hj; exact ⟨v, rfl, h⟩
    | succ j => simp at hj⟩
theorem FRow1.one {v : Value} {ps : List (Int × Int)} (h : FRow1 te w b v ps) : v.oneCell' = true := by
  obtain ⟨A, c, rfl, _⟩ := h; rfl
/-- A slice of slices of pairs, read. -/
def PMat (w : World) (A : Option Addr) (L : List (List (Int × Int))) : Prop :=
  ∀ (j : Nat) (ps : List (Int × Int)), L[j]? = some ps → ∃ ad A' c, A = some ad ∧ w.cell? (ad.add j) = some (.slice A' ps.length c) ∧ Prs w A' ps
theorem PMat.below {A : Option Addr} (h : PMat w A L) (hb : Below w.heap.size w w') : PMat w' A L := fun j r hj => by
  obtain ⟨ad, A', c, h1, h2, h3⟩ := h j r hj
  exact ⟨ad, A', c, h1, (hb.cell (lt_of_cell h2)).trans h2, h3.below hb⟩
theorem PMat.nil {A : Option Addr} : PMat w A [] := fun j r h => by simp at h
theorem PMat.some_ {A : Option Addr} (h : PMat w A L) (hn : 0 < L.length) : ∃ ad, A = some ad ∧ ad.block < w.heap.size ∧ ∀ (j : Nat) (ps : List (Int × Int)), L[j]? = some ps → ∃ A' c, w.cell? (ad.add j) = some (.slice A' ps.length c) ∧ Prs w A' ps := by
  obtain ⟨ad, A', c, h1, h2, _⟩ := h 0 _ (List.getElem?_eq_getElem hn)
  refine ⟨ad, h1, by have := lt_of_cell h2; rwa [add_block] at this, fun j r hj => ?_⟩
  obtain ⟨ad', A', c, h1', h2, h3⟩ := h j r hj
  rw [h1] at h1'
  injection h1' with h1'
  subst h1'
  exact ⟨A', c, h2, h3⟩
theorem PMat.of_rows {base n c : Nat} {A : Option Addr} (h : FRows te w b vs L) (hown : w.ownsRow base tq 1 (.slice A n c) n vs) : PMat w A L := fun j ps hj => by
  obtain ⟨v, hv, A', c', rfl, hp, _⟩ := h.2 j ps hj
  obtain ⟨ad, hA, hc⟩ := At.of_own hown j _ hv
  exact ⟨ad, A', c', hA, hc, hp⟩
theorem PMat.fmat {A : Option Addr} {S : List (List Rat)} (h : PMat w A (S.map fun r => r.map pr)) : FMat w A S := fun j r hj => by
  obtain ⟨ad, A', c, h1, h2, h3⟩ := h j (r.map pr) (by rw [List.getElem?_map, hj]; rfl)
  rw [List.length_map] at h2
  exact ⟨ad, A', c, h1, h2, h3⟩
theorem FMat.pmat {A : Option Addr} {S : List (List Rat)} (h : FMat w A S) : PMat w A (S.map fun r => r.map pr) := fun j ps hj => by
  rw [List.getElem?_map] at hj
  cases hs : S[j]? with
  | none => rw [hs] at hj; cases hj
  | some r =>
    rw [hs] at hj
    injection hj with hj
    subst hj
    obtain ⟨ad, A', c, h1, h2, h3⟩ := h j r hs
    exact ⟨ad, A', c, h1, by rw [List.length_map]; exact h2, h3⟩
end
theorem fr_ne : 37 ≠ 26 := by decide
theorem mfr_neb : 77 ≠ 66 := by decide
theorem mfr_ne : 77 ≠ 63 := by decide

/- Contract: Check of package market. -/

/-- Rows of spendings as they may be given. -/
def rowSp (V : List (List Int)) (r : List (Int × Int)) : Bool := r.all (okF 0) && decide (r.length = goodsN V)
def chkB (B : List Int) (V : List (List Int)) (ps : List (Int × Int)) (L : List (List (Int × Int))) : Bool :=
  prsOk V ps && (decide (L.length = B.length) && (L.all (rowSp V) && balB B V (toQ ps) (L.map toQ)))
def CheckPost (B : List Int) (V : List (List Int)) (ps : List (Int × Int)) (L : List (List (Int × Int))) (w : World) (x : Ending) (w' : World) : Prop :=
  Below w.heap.size w w' ∧ x = .returned (.tuple (if validM B V then #[.bool (chkB B V ps L), .int .i64 0] else #[.bool false, .int .i64 2]))
theorem CheckPost.no {B : List Int} {V : List (List Int)} {ps : List (Int × Int)} {L : List (List (Int × Int))} {w w' : World} (hb : Below w.heap.size w w') (hv : validM B V = true) (hc : chkB B V ps L = false) : CheckPost B V ps L w (.returned (.tuple #[.bool false, .int .i64 0])) w' :=
  ⟨hb, by rw [if_pos hv, hc]⟩
theorem map_take_all {L : List (List (Int × Int))} {V : List (List Int)} {i : Nat} {x : List (Int × Int)} (hx : L[i]? = some x) (h : (L.take i).all (rowSp V) = true) (hr : rowSp V x = true) : (L.take (i + 1)).all (rowSp V) = true := all_take_s hx h hr
set_option maxRecDepth 100000 in
set_option maxHeartbeats 1600000 in
theorem mcheck_any (A : Option Addr) (n c : Nat) (U : Option Addr) (m d : Nat) (P : Option Addr) (lp cp : Nat) (Sp : Option Addr) (ls cs : Nat) (B : List Int) (V : List (List Int)) (ps : List (Int × Int)) (L : List (List (Int × Int))) (w : World) (h : MktAt w A n U m B V) (hn : n ≤ 1000) (hm : m ≤ 1000) (hr : ∀ r ∈ V, r.length ≤ 1000)
    (hP : Prs w P ps) (hlp : ps.length = lp) (hlp2 : lp ≤ 1000) (hi : I64s ps) (hS : PMat w Sp L) (hls : L.length = ls) (hls2 : ls ≤ 1000) (hsi : ∀ r ∈ L, I64s r) (hsl : ∀ r ∈ L, r.length ≤ 1000) :
    Calls Try.prog 36 #[mktV A n c U m d, .slice P lp cp, .slice Sp ls cs] w (CheckPost B V ps L w) := by
  subst hlp
  subst hls
  have hb1 : Below w.heap.size w (w.alloc (.cells #[.slice A n c, .slice U m d] 30)) := (Below.refl _ _).alloc (Nat.le_refl _) _
  have hM1 : Blk (w.alloc (.cells #[.slice A n c, .slice U m d] 30)) w.heap.size 30 #[.slice A n c, .slice U m d] := Blk.new _ _ _ rfl
  have HV := Lib.hid (mvalid_any A n c U m d B V _ (h.below hb1) hn hm hr)
  have H := Lib.hid (And.intro h (And.intro hP (And.intro hb1 (And.intro hM1 (And.intro hi (And.intro hS (And.intro hsi hsl)))))))
  clear h hP hb1 hM1 hi hS hsi hsl
  unfold mktV
  go_enter Try.func36, Try.ntmps36
  go_wp2_with fail
  refine HV.out.mono ?_
  rintro e w2 ⟨rfl, hb2⟩
  have hM2 := H.out.2.2.2.1.below hb2 (by simp)
  have hbw := H.out.2.2.1.trans (hb2.mono H.out.2.2.1.size)
  obtain ⟨m1, m2, _, _⟩ := hM2.at2
  have H2 := Lib.hid (And.intro hM2 hbw)
  clear hM2 hbw hb2 HV
  cases hv : validM B V with
  | false =>
    have HP := Lib.hid hv
    clear hv
    go_wp2_with fail
    go_ret2
    exact ⟨H2.out.2, by rw [HP.out]; rfl⟩
  | true =>
    obtain ⟨rfl, hmk⟩ := mkIn_of H.out.1 hv
    have HG : Hid (∀ w', Below w.heap.size w w' → Calls Try.prog 53 #[.agg #[.slice A m c, .slice U m d]] w' fun e w'' => e = .returned (.int .i64 (goodsN V : Nat)) ∧ Below w'.heap.size w' w'') := Lib.hid fun w' hb => mgoods_any A m c U m d B V w' (H.out.1.below hb) hmk.hn.1
    have hBm := H.out.1.hB
    have HMK := Lib.hid (And.intro hmk hv)
    have hm3 := hmk.hn
    have hk3 := hmk.hk
    clear hv hmk
    go_wp2_with fail
    refine (HG.out _ H2.out.2).mono ?_
    rintro e w3 ⟨rfl, hb3⟩
    have hbw3 := H2.out.2.trans (hb3.mono H2.out.2.size)
    have HRD : Hid (Calls Try.prog 52 #[.slice P ps.length cp, .int .i64 (goodsN V : Nat), .int .i64 1] w3 (ReadPost ps (goodsN V : Nat) 1 w3)) := Lib.hid (mread_any P ps.length cp ps (goodsN V : Nat) 1 w3 rfl hlp2 (H.out.2.1.below hbw3) H.out.2.2.2.2.1 (by decide))
    have H3 := Lib.hid (And.intro (H2.out.1.below hb3 (by have := H2.out.1.lt; omega)) hbw3)
    clear hb3 hbw3 m1 m2
    go_wp2_with fail
    refine HRD.out.mono ?_
    intro ev w4 hpost
    obtain ⟨hb4, hcase⟩ := hpost
    have hbw4 := H3.out.2.trans (hb4.mono H3.out.2.size)
    have hM4 := H3.out.1.below hb4 H3.out.1.lt
    have H4 := Lib.hid (And.intro hM4 hbw4)
    obtain ⟨m1, m2, _, _⟩ := hM4.at2
    have hs3 := H3.out.2.size
    have hs4 := hb4.size
    clear hb4 hbw4 hM4 HRD
    rcases hcase with ⟨hall, A', c', rfl, hown⟩ | ⟨hall, rfl⟩
    · by_cases hlen : ps.length = goodsN V
      · by_cases hln : L.length = m
        · have hfr : Fracs w4 A' (toQ ps) := by
            unfold Go.Proofs.Ytnljnjnmhbkdoaa.Fracs
            rw [toQ_pr hall]
            exact At.of_own hown
          have HOK : Hid (prsOk V ps = true) := Lib.hid (by
            unfold prsOk
            rw [hall, decide_eq_true hlen]; rfl)
          have HF := Lib.hid (And.intro hfr (toQ_ok hall))
          have hdt : decide ((ps.length : Int) = (goodsN V : Nat)) = true := decide_eq_true (by omega)
          rw [hdt]
          have HLEN := Lib.hid (And.intro hlen hln)
          clear hall hown hfr hdt hlen
          obtain ⟨ll, hll⟩ : ∃ ll, ll = L.length := ⟨_, rfl⟩
          rw [← hll] at hln hls2 ⊢
          have HLL := Lib.hid hll
          subst hln
          clear hll
          go_wp2_with fail
          go_loopw [39] (fun iv wx => ∃ (i : Nat) (A2 : Option Addr) (c2 : Nat) (vs : List Value), i ≤ ll ∧ iv = .int .i64 i ∧ Blk wx w4.heap.size 66 #[.slice A' ps.length c', .slice A2 i c2] ∧ wx.ownsRow (w4.heap.size + 1) 63 1 (.slice A2 i c2) i vs ∧ FRows 77 wx 0 vs (L.take i) ∧ (L.take i).all (rowSp V) = true ∧ Below w4.heap.size w4 wx) (fun iv _ => ll - (intOf iv).toNat)
          case atStart => exact ⟨0, none, 0, [], Nat.zero_le _, rfl, Blk.new _ _ _ rfl, World.ownsRow_nil _ _ _ _, by simpa using FRows.nil, by simp, (Below.refl _ _).alloc (Nat.le_refl _) _⟩
          case round =>
            obtain ⟨i, A2, c2, vs, hi, rfl, hbb, hown, hrows, hall, hbl⟩ := hrel
            obtain ⟨wo, rfl⟩ : ∃ wo : World, wo = wr := ⟨_, rfl⟩
            have HR := Lib.hid (And.intro hbb (And.intro hown (And.intro hrows (And.intro hall hbl))))
            have hbo := H4.out.2.trans (hbl.mono H4.out.2.size)
            have hwl := hbb.lt
            have hmo := H4.out.1.below hbl H4.out.1.lt
            have HMO := Lib.hid (And.intro hmo hbo)
            clear hbb hown hrows hall hbl
            by_cases him : i < ll
            · -- {{
              obtain ⟨x, hx⟩ : ∃ x, L[i]? = some x := ⟨_, List.getElem?_eq_getElem (by rw [← HLL.out]; exact him)⟩
              obtain ⟨aS, rfl, _, hcS⟩ := H.out.2.2.2.2.2.1.some_ (by rw [← HLL.out]; omega)
              obtain ⟨A3, c3, hc, hF⟩ := hcS i x hx
              have c1 := (HMO.out.2.cell (lt_of_cell hc)).trans hc
              have hxm := List.mem_of_getElem? hx
              obtain ⟨q1, q2, _, _⟩ := hmo.at2
              have HX := Lib.hid (And.intro hx (And.intro hxm hF))
              clear hx hxm hc hcS hF m1 m2 hmo hbo
              go_wp2_with fail
              refine (HG.out _ HMO.out.2).mono ?_
              rintro e w6 ⟨rfl, hb6⟩
              have hb06 := HMO.out.2.trans (hb6.mono HMO.out.2.size)
              have HRD : Hid (Calls Try.prog 52 #[.slice A3 x.length c3, .int .i64 (goodsN V : Nat), .int .i64 0] w6 (ReadPost x (goodsN V : Nat) 0 w6)) := Lib.hid (mread_any A3 x.length c3 x (goodsN V : Nat) 0 w6 rfl (H.out.2.2.2.2.2.2.2 x HX.out.2.1) (HX.out.2.2.below hb06) (H.out.2.2.2.2.2.2.1 x HX.out.2.1) (by decide))
              have H6 := Lib.hid hb6
              clear hb6 hb06 c1 q1 q2
              go_wp2_with fail
              refine HRD.out.mono ?_
              intro ev w7 hpost
              obtain ⟨hb7, hcase⟩ := hpost
              have hb07 := H6.out.trans (hb7.mono H6.out.size)
              have hB7 := HR.out.1.below hb07 hwl
              have h7s := hb07.size
              have H7 := Lib.hid (And.intro hb07 hB7)
              have hs6 := H6.out.size
              clear hb7 hb07 HRD
              rcases hcase with ⟨hall7, A4, c4, rfl, hown4⟩ | ⟨hall7, rfl⟩
              · by_cases hxl : x.length = goodsN V
                · have HRS : Hid ((L.take (i + 1)).all (rowSp V) = true) := Lib.hid (map_take_all HX.out.1 HR.out.2.2.2.1 (by unfold rowSp; rw [hall7, decide_eq_true hxl]; rfl))
                  have hdt : decide ((x.length : Int) = (goodsN V : Nat)) = true := decide_eq_true (by omega)
                  have hrow4 : FRow1 77 w7 0 (.slice A4 x.length c4) x := FRow1.of_own hown4 rfl _
                  have hrows7 := (HR.out.2.2.1.below H7.out.1).append (FRows.one_ hrow4)
                  rw [← take_snoc HX.out.1] at hrows7
                  have H8 := Lib.hid (And.intro (own_below HR.out.2.1 H7.out.1) hrows7)
                  obtain ⟨y0, y1, _, _⟩ := hB7.at2
                  rw [hdt]
                  clear hown4 hrow4 hrows7 hall7 hdt hxl hB7
                  have hsz : w4.heap.size + 1 ≤ w7.heap.size := by have := H7.out.2.lt; omega
                  go_wp2_with (at_builtin; refine app1g sty_mfracss rfl _ _ rfl (w4.heap.size + 1) A2 i c2 _ #[.slice A4 x.length c4] rfl (by simp [Value.oneCell']) rfl H8.out.1 _ rfl (by simp) (by omega) hsz ?_)
                  intro A5 k5 w9 hown9 hg9 hbl9 hk91 hk92
                  have hrows9 := H8.out.2.grown mfr_ne H8.out.1 (Nat.zero_le _) hg9
                  have hB9 := H7.out.2.below (B := w4.heap.size + 1) hbl9 (by omega)
                  obtain ⟨z0, z1, z2, z3⟩ := hB9.at2
                  have H9 := Lib.hid (And.intro hown9 (And.intro hrows9 (And.intro hB9 hbl9)))
                  clear hown9 hg9 hrows9 hB9 hbl9 y0 y1
                  go_wp2_with fail
                  go_roundw
                  case rel =>
                    obtain ⟨hown9, hrows9, hB9, hbl9⟩ := H9.out
                    refine ⟨i + 1, A5, k5, _, by omega, by go_num, hB9.set_ 1 _, own_far hown9 (fun ad he => ?_) _, hrows9.far mfr_neb hB9 rfl _, HRS.out, ?_⟩
                    · obtain ⟨g, e1, e2, _⟩ := own_someN hown9 (by omega)
                      rw [he] at e1
                      injection e1 with e1
                      rw [e1]
                      simp
                      omega
                    · have h1 := HR.out.2.2.2.2.trans (H7.out.1.mono HR.out.2.2.2.2.size)
                      exact (h1.trans (hbl9.mono (by omega))).setCell (by simp) _
                  case measure => simp [intOf]; omega
                · have HNO : Hid (chkB B V ps L = false) := Lib.hid (by
                    unfold chkB
                    rw [all_bad HX.out.1 (p := rowSp V) (by unfold rowSp; rw [decide_eq_false hxl, Bool.and_false]), Bool.false_and, Bool.and_false, Bool.and_false])
                  have hdt : decide ((x.length : Int) = (goodsN V : Nat)) = false := decide_eq_false (by omega)
                  rw [hdt]
                  clear hown4 hall7 hdt hxl hB7
                  go_wp2_with fail
                  go_ret2
                  exact CheckPost.no (HMO.out.2.trans (H7.out.1.mono HMO.out.2.size)) HMK.out.2 HNO.out
              · have HNO : Hid (chkB B V ps L = false) := Lib.hid (by
                  unfold chkB
                  rw [all_bad HX.out.1 (p := rowSp V) (by unfold rowSp; rw [hall7, Bool.false_and]), Bool.false_and, Bool.and_false, Bool.and_false])
                clear hall7 hB7
                go_wp2_with fail
                go_ret2
                exact CheckPost.no (HMO.out.2.trans (H7.out.1.mono HMO.out.2.size)) HMK.out.2 HNO.out
              -- }}
            · obtain rfl : ll = i := by omega
              have hAll := HR.out.2.2.2.1
              have hRw := HR.out.2.2.1
              rw [List.take_of_length_le (by rw [← HLL.out]; exact Nat.le_refl _)] at hAll hRw
              have hchk : chkB B V ps L = balB B V (toQ ps) (L.map toQ) := by
                unfold chkB
                rw [HOK.out, hAll, decide_eq_true (by rw [← HLL.out]; exact hBm.symm)]
                rfl
              have hrow : ∀ r ∈ L, r.all (okF 0) = true ∧ r.length = goodsN V := fun r hr => by
                have := List.all_eq_true.1 hAll r hr
                unfold rowSp at this
                rw [Bool.and_eq_true, decide_eq_true_eq] at this
                exact this
              have hLQ : (L.map toQ).map (fun r => r.map pr) = L := by
                rw [List.map_map]
                conv => rhs; rw [← List.map_id L]
                exact List.map_congr_left fun r hr => toQ_pr (hrow r hr).1
              have hbi : BalIn wo A ll U A' ps.length A2 B V (toQ ps) (L.map toQ) := {
                mkt := H.out.1.below HMO.out.2
                hn := hm3
                hk := by rw [HLEN.out.1]; omega
                hg := HLEN.out.1.symm
                rows := by rw [HLEN.out.1]; exact HMK.out.1.rows
                buds := HMK.out.1.buds
                hp := toQ_length ps
                pok := HF.out.2
                hP := HF.out.1.below HR.out.2.2.2.2
                hS := by rw [List.length_map]; exact HLL.out.symm
                srow := by
                  intro r hr
                  obtain ⟨x, hx, rfl⟩ := List.mem_map.1 hr
                  rw [toQ_length, HLEN.out.1]; exact (hrow x hx).2
                sok := by
                  intro r hr q hq
                  obtain ⟨x, hx, rfl⟩ := List.mem_map.1 hr
                  exact (toQ_sp (hrow x hx).1 q hq).1
                hSp := by
                  have := PMat.of_rows hRw HR.out.2.1
                  rw [← hLQ] at this
                  exact this.fmat }
              have HBA : Hid (Calls Try.prog 56 #[.agg #[.slice A ll c, .slice U ll d], .agg #[.slice A' ps.length c', .slice A2 ll c2]] wo fun e w'' => e = .returned (.bool (balB B V (toQ ps) (L.map toQ))) ∧ Below wo.heap.size wo w'') := Lib.hid (mbalanced_any A ll c U d A' ps.length c' A2 c2 B V (toQ ps) (L.map toQ) wo hbi)
              rw [← hchk] at HBA
              obtain ⟨q1, q2, _, _⟩ := hmo.at2
              obtain ⟨z0, z1, _, _⟩ := HR.out.1.at2
              clear hAll hRw hchk hrow hLQ hbi m1 m2 hmo hbo
              go_wp2_with fail
              refine HBA.out.mono ?_
              rintro e w9 ⟨rfl, hb9⟩
              have HB9 := Lib.hid (HMO.out.2.trans (hb9.mono HMO.out.2.size))
              clear hb9
              go_wp2_with fail
              go_ret2
              exact ⟨HB9.out, by rw [if_pos HMK.out.2]; rfl⟩
        · have HNO : Hid (chkB B V ps L = false) := Lib.hid (by
            unfold chkB
            rw [decide_eq_false (by rw [hBm]; exact hln), Bool.false_and, Bool.and_false])
          have hdt : decide ((ps.length : Int) = (goodsN V : Nat)) = true := decide_eq_true (by omega)
          rw [hdt]
          have hnl : ¬ ((L.length : Int) = (m : Int)) := by omega
          clear hall hown hdt hlen hln
          go_wp2_with fail
          go_ret2
          exact CheckPost.no H4.out.2 HMK.out.2 HNO.out
      · have HNO : Hid (chkB B V ps L = false) := Lib.hid (by
          unfold chkB prsOk
          rw [decide_eq_false hlen, Bool.and_false, Bool.false_and])
        have hdt : decide ((ps.length : Int) = (goodsN V : Nat)) = false := decide_eq_false (by omega)
        rw [hdt]
        clear hall hown hdt hlen
        go_wp2_with fail
        go_ret2
        exact CheckPost.no H4.out.2 HMK.out.2 HNO.out
    · have HNO : Hid (chkB B V ps L = false) := Lib.hid (by
        unfold chkB prsOk
        rw [hall, Bool.false_and, Bool.false_and])
      clear hall
      go_wp2_with fail
      go_ret2
      exact CheckPost.no H4.out.2 HMK.out.2 HNO.out

/- Contract: Spend of package market. -/

def SpendPost (B : List Int) (V : List (List Int)) (w : World) (x : Ending) (w' : World) : Prop :=
  Below w.heap.size w w' ∧ match prF B V with
    | none => x = .returned (.tuple #[.slice none 0 0, .int .i64 2])
    | some r => ∃ A' c', x = .returned (.tuple #[.slice A' r.2.length c', .int .i64 0]) ∧ FMat w' A' r.2
theorem map_take_next {α β : Type} {l : List α} {f : α → β} {k : Nat} {x : α} (h : l[k]? = some x) : (l.map f).take (k + 1) = (l.map f).take k ++ [f x] := by
  rw [List.take_add_one, List.getElem?_map, h]; rfl
set_option maxRecDepth 100000 in
set_option maxHeartbeats 1600000 in
theorem mspend_any (A : Option Addr) (n c : Nat) (U : Option Addr) (m d : Nat) (B : List Int) (V : List (List Int)) (w : World) (h : MktAt w A n U m B V) (hn : n ≤ 1000) (hm : m ≤ 1000) (hr : ∀ r ∈ V, r.length ≤ 1000) (hex : Found B V) :
    Calls Try.prog 23 #[mktV A n c U m d] w (SpendPost B V w) := by
  have hb1 : Below w.heap.size w (w.alloc (.cells #[.slice A n c, .slice U m d] 30)) := (Below.refl _ _).alloc (Nat.le_refl _) _
  have hM1 : Blk (w.alloc (.cells #[.slice A n c, .slice U m d] 30)) w.heap.size 30 #[.slice A n c, .slice U m d] := Blk.new _ _ _ rfl
  have HV := Lib.hid (mvalid_any A n c U m d B V _ (h.below hb1) hn hm hr)
  have H := Lib.hid (And.intro h (And.intro hex (And.intro hb1 hM1)))
  clear h hex hb1 hM1
  unfold mktV
  go_enter Try.func23, Try.ntmps23
  go_wp2_with fail
  refine HV.out.mono ?_
  rintro e w2 ⟨rfl, hb2⟩
  have hM2 := H.out.2.2.2.below hb2 (by simp)
  have hbw := H.out.2.2.1.trans (hb2.mono H.out.2.2.1.size)
  obtain ⟨m1, m2, _, _⟩ := hM2.at2
  have H2 := Lib.hid (And.intro hM2 hbw)
  clear hM2 hbw hb2 HV
  cases hv : validM B V with
  | false =>
    have HP : Hid (prF B V = none) := Lib.hid (by unfold prF; rw [if_neg (by rw [hv]; decide)])
    clear hv
    go_wp2_with fail
    go_ret2
    exact ⟨H2.out.2, by rw [HP.out]; rfl⟩
  | true =>
    obtain ⟨rfl, hmk⟩ := mkIn_of H.out.1 hv
    obtain ⟨r, hbf⟩ := H.out.2.1 hv
    have HP : Hid (prF B V = some r) := Lib.hid (by unfold prF; rw [if_pos hv]; exact hbf)
    have hok := (prF_ok HP.out).2
    have HB : Hid (Calls Try.prog 40 #[mktV A m c U m d] w2 (BalPost B V m (goodsN V) w2)) := Lib.hid (mbalance_any A m c U d (goodsN V) B V w2 (hmk.below H2.out.2))
    have hBm := H.out.1.hB
    rw [hBm] at hbf
    have hm3 := hmk.hn
    have hk3 := hmk.hk
    have hls := hok.ls
    rw [hBm] at hls
    have HBF := Lib.hid (And.intro hbf (And.intro hok hls))
    clear hv hbf hok hmk hls
    go_wp2_with fail
    refine HB.out.mono ?_
    intro ev w5 hpost
    unfold BalPost at hpost
    rw [HBF.out.1] at hpost
    obtain ⟨hb5, PB, SB, rfl, hm5⟩ := hpost
    have hfd := field_b1 (.slice (some ⟨PB, 0, none⟩) (goodsN V) (goodsN V)) (.slice (some ⟨SB, 0, none⟩) m m)
    have H5 := Lib.hid (And.intro hb5 hm5)
    have hs5 := hb5.size
    clear hb5 hm5 m1 m2 HB
    unfold balV
    go_wp2_with fail
    go_loopw [4, 14] (fun ov iv wx => ∃ (i : Nat) (A2 : Option Addr) (c2 : Nat) (vs : List Value), i ≤ m ∧ iv = .int .i64 i ∧ ov = .slice A2 i c2 ∧ wx.ownsRow w5.heap.size 26 1 (.slice A2 i c2) i vs ∧ FRows 37 wx w5.heap.size vs ((r.2.map fun x => x.map pr).take i) ∧ Below w5.heap.size w5 wx) (fun _ iv _ => m - (intOf iv).toNat)
    case atStart => exact ⟨0, none, 0, [], Nat.zero_le _, rfl, rfl, World.ownsRow_nil _ _ _ _, by simpa using FRows.nil, Below.refl _ _⟩
    case round =>
      obtain ⟨i, A2, c2, vs, hi, rfl, rfl, hown, hrows, hbl⟩ := hrel
      obtain ⟨wo, rfl⟩ : ∃ wo : World, wo = wr := ⟨_, rfl⟩
      have HR := Lib.hid (And.intro hown (And.intro hrows hbl))
      clear hown hrows hbl
      by_cases him : i < m
      · obtain ⟨x, hx⟩ : ∃ x, r.2[i]? = some x := ⟨_, List.getElem?_eq_getElem (by rw [HBF.out.2.2]; exact him)⟩
        obtain ⟨ad, A3, c3, hA, hc, hF⟩ := H5.out.2.get.2 i x hx
        injection hA with hA
        subst hA
        have hxl := HBF.out.2.1.lr x (List.mem_of_getElem? hx)
        have c1 := (HR.out.2.2.cell (lt_of_cell hc)).trans hc
        have e1 : (⟨SB, 0, none⟩ : Addr).add i = ⟨SB, i, none⟩ := by
          cases i with
          | zero => simp [Addr.add]
          | succ j => simp [Addr.add]
        rw [e1, hxl] at c1
        have HFR : Hid (Calls Try.prog 39 #[.slice A3 (goodsN V) c3] wo fun e w' => ∃ A' c', e = .returned (.slice A' (goodsN V) c') ∧ w'.ownsRow wo.heap.size 37 2 (.slice A' (goodsN V) c') (goodsN V) (pcells (x.map pr)) ∧ Below wo.heap.size wo w') := Lib.hid (mfracs_any A3 (goodsN V) c3 (x.map pr) wo (by rw [List.length_map, hxl]) (by omega) (hF.below HR.out.2.2))
        have HX := Lib.hid (And.intro hxl (map_take_next (f := fun x : List Rat => x.map pr) hx))
        clear hx hc hF hxl e1
        go_wp2_with fail
        refine HFR.out.mono ?_
        rintro e w6 ⟨A4, c4, rfl, hown4, hb6⟩
        have hown6 := own_below HR.out.1 hb6
        have hrow4 : FRow1 37 w6 w5.heap.size (.slice A4 (goodsN V) c4) (x.map pr) := FRow1.of_own hown4 (by rw [List.length_map, HX.out.1]) _
        have hrows6 := (HR.out.2.1.below hb6).append (FRows.one_ hrow4)
        rw [← HX.out.2] at hrows6
        have hb56 := HR.out.2.2.trans (hb6.mono HR.out.2.2.size)
        have H6 := Lib.hid (And.intro hown6 (And.intro hrows6 hb56))
        have hsz : w5.heap.size ≤ w6.heap.size := H6.out.2.2.size
        clear hown4 hown6 hrow4 hrows6 hb56 hb6 c1 HFR
        go_wp2_with (at_builtin; refine app1g sty_fracss rfl _ _ rfl w5.heap.size A2 i c2 _ #[.slice A4 (goodsN V) c4] rfl (by simp [Value.oneCell']) rfl H6.out.1 _ rfl (by simp) (by omega) hsz ?_)
        intro A5 k5 w7 hown7 hg7 hbl7 hk71 hk72
        have hrows7 := H6.out.2.1.grown fr_ne H6.out.1 (Nat.le_refl _) hg7
        have H7 := Lib.hid (And.intro hown7 (And.intro hrows7 (H6.out.2.2.trans hbl7)))
        clear hown7 hg7 hbl7 hrows7
        go_wp2_with fail
        go_roundw
        case rel => exact ⟨i + 1, A5, k5, _, by omega, by go_num, rfl, H7.out.1, H7.out.2.1, H7.out.2.2⟩
        case measure => simp [intOf]; omega
      · obtain rfl : m = i := by omega
        go_wp2_with fail
        go_ret2
        have hbb := H2.out.2.trans (H5.out.1.mono H2.out.2.size)
        refine ⟨hbb.trans (HR.out.2.2.mono hbb.size), ?_⟩
        rw [HP.out]
        refine ⟨A2, c2, by rw [HBF.out.2.2]; rfl, ?_⟩
        have := HR.out.2.1
        rw [List.take_of_length_le (by rw [List.length_map, HBF.out.2.2]; exact Nat.le_refl _)] at this
        exact (PMat.of_rows this HR.out.1).fmat

/- What buyers get is worth, and how great its numbers are: plain Lean. -/

def worQ (V : List (List Int)) (P : List Rat) (S : List (List Rat)) (i g : Nat) : Rat := useQ V i g * spd S i g / priQ P g
def worTo (V : List (List Int)) (P : List Rat) (S : List (List Rat)) (i g : Nat) : Rat := sumQ (worQ V P S i) g
def worL (V : List (List Int)) (n k : Nat) (r : List Rat × List (List Rat)) : List Rat := (List.range n).map fun i => worTo V r.1 r.2 i k
def Wb (q : Rat) : Prop := 0 ≤ q.num ∧ q.num ≤ 576000000 ∧ (q.den : Int) ≤ 57600000
theorem num_den_of (q : Rat) : q = (q.num : Rat) / ((q.den : Int) : Rat) := by
  rw [← Rat.divInt_eq_div]
  exact (Rat.num_divInt_den q).symm
theorem rat_num_le {x : Rat} {m : Int} (h : x ≤ (m : Rat)) : x.num ≤ m * x.den := by
  have h1 := (Rat.le_iff x (m : Rat)).1 h
  rw [Rat.num_intCast, Rat.den_intCast] at h1
  simpa using h1
theorem quot_wb {u : Int} {x p : Rat} (hu : 0 ≤ u ∧ u ≤ 20) (hx0 : 0 ≤ x.num) (hx : x.num ≤ 24000) (hxd : (x.den : Int) ≤ 1200) (hp : PrS p) : Wb ((u : Rat) * x / p) := by
  obtain ⟨p1, p2, p3⟩ := hp
  have hxd0 := den_pos x
  have hpd0 := den_pos p
  have e : (u : Rat) * x / p = ((u * (x.num * p.den) : Int) : Rat) / (((x.den : Int) * p.num : Int) : Rat) := by
    rw [Rat.intCast_mul, Rat.intCast_mul, Rat.intCast_mul]
    have hx' := num_den_of x
    have hp' := num_den_of p
    have a1 : ((x.den : Int) : Rat) ≠ 0 := rat_ne (by omega)
    have a2 : ((p.den : Int) : Rat) ≠ 0 := rat_ne (by omega)
    have a3 : (p.num : Rat) ≠ 0 := rat_ne (by omega)
    generalize ((x.den : Int) : Rat) = xd at *
    generalize ((p.den : Int) : Rat) = pd at *
    generalize (x.num : Rat) = xn at *
    generalize (p.num : Rat) = pn at *
    subst hx'
    subst hp'
    grind
  have h1 : 0 ≤ x.num * (p.den : Int) ∧ x.num * (p.den : Int) ≤ 24000 * 1200 := ⟨Int.mul_nonneg hx0 (by omega), Int.mul_le_mul hx p3 (by omega) (by omega)⟩
  have h2 : 0 ≤ u * (x.num * (p.den : Int)) ∧ u * (x.num * (p.den : Int)) ≤ 20 * (24000 * 1200) := ⟨Int.mul_nonneg hu.1 h1.1, Int.mul_le_mul hu.2 h1.2 h1.1 (by omega)⟩
  have h3 : 1 * 1 ≤ (x.den : Int) * p.num ∧ (x.den : Int) * p.num ≤ 1200 * 48000 := ⟨Int.mul_le_mul (by omega) p1 (by omega) (by omega), Int.mul_le_mul hxd p2 (by omega) (by omega)⟩
  have h4 := frac_bd (by omega) e
  have h5 := frac_nn (by omega) h2.1 e
  unfold Wb
  omega
theorem sub_den {b : Int} {x : Rat} (hx0 : 0 ≤ (b : Rat) - x) (hb : b ≤ 20) (hx : 0 ≤ x) (hxd : (x.den : Int) ≤ 1200) : 0 ≤ ((b : Rat) - x).num ∧ ((b : Rat) - x).num ≤ 24000 ∧ ((((b : Rat) - x).den : Int)) ≤ 1200 := by
  have hxd0 := den_pos x
  have e : (b : Rat) - x = ((b * x.den - x.num : Int) : Rat) / ((x.den : Int) : Rat) := by
    rw [Rat.intCast_sub, Rat.intCast_mul]
    have hx' := num_den_of x
    have a1 : ((x.den : Int) : Rat) ≠ 0 := rat_ne (by omega)
    generalize ((x.den : Int) : Rat) = xd at *
    generalize (x.num : Rat) = xn at *
    subst hx'
    grind
  have h4 := frac_bd (by omega) e
  have h6 : (b : Rat) - x ≤ ((20 : Int) : Rat) := by
    have : (b : Rat) ≤ ((20 : Int) : Rat) := by exact_mod_cast hb
    grind
  have h7 := rat_num_le h6
  have h8 := Rat.num_nonneg.2 hx0
  omega
theorem small_sp {b : Int} {x : Rat} (hx0 : 0 ≤ x) (hxb : x ≤ (b : Rat)) (hb : b ≤ 20) (hxd : (x.den : Int) ≤ 1200) : 0 ≤ x.num ∧ x.num ≤ 24000 := by
  have h6 : x ≤ ((20 : Int) : Rat) := by
    have : (b : Rat) ≤ ((20 : Int) : Rat) := by exact_mod_cast hb
    grind
  have h7 := rat_num_le h6
  have h8 := Rat.num_nonneg.2 hx0
  have hxd0 := den_pos x
  omega
theorem Wb.zero : Wb 0 := ⟨by decide, by decide, by decide⟩
section
variable {B : List Int} {V : List (List Int)} {r : List Rat × List (List Rat)}
theorem pri_sm (h : SolR B V B.length (goodsN V) r) {g : Nat} (hg : g < goodsN V) : PrS (priQ r.1 g) := by
  unfold priQ
  rw [List.getD_eq_getElem?_getD, List.getElem?_eq_getElem (by rw [h.lp]; exact hg)]
  exact h.ps _ (List.getElem_mem _)
theorem spd_den (h : SolR B V B.length (goodsN V) r) (i g : Nat) : ((spd r.2 i g).den : Int) ≤ 1200 := by
  unfold spd rowQ
  rw [List.getD_eq_getElem?_getD, List.getD_eq_getElem?_getD]
  cases e : r.2[i]? with
  | none => simp
  | some x =>
    simp only [Option.getD_some]
    cases e2 : x[g]? with
    | none => simp
    | some q => exact (h.ss x (List.mem_of_getElem? e) q (List.mem_of_getElem? e2)).2.2
theorem wor_wb (hv : validM B V = true) (h : SolR B V B.length (goodsN V) r) {i g : Nat} (hi : i < B.length) (hg : g < goodsN V) :
    (0 ≤ (spd r.2 i g).num ∧ (spd r.2 i g).num ≤ 24000 ∧ ((spd r.2 i g).den : Int) ≤ 1200) ∧ Wb (worQ V r.1 r.2 i g) ∧ Wb (worTo V r.1 r.2 i g) := by
  obtain ⟨hm, _, hu⟩ := mkOk_of hv
  have hE := h.equi hv
  obtain ⟨⟨a1, a2, a3, a4⟩, b1, b2, b3⟩ := validM_iff.1 hv
  have hbi := a3 (B.getD i 0) (by
    rw [List.getD_eq_getElem?_getD, List.getElem?_eq_getElem hi]
    exact List.getElem_mem _)
  have hsp : ∀ x, x < goodsN V → 0 ≤ spd r.2 i x ∧ spd r.2 i x ≤ ((B.getD i 0 : Int) : Rat) := fun x hx => ⟨hE.nn i x hi hx, by
    have h1 := sq_le (f := spd r.2 i) (n := goodsN V) (fun y hy => hE.nn i y hi hy) x hx
    rw [hE.row i hi] at h1
    exact h1⟩
  have hsm : ∀ x, x < goodsN V → 0 ≤ (spd r.2 i x).num ∧ (spd r.2 i x).num ≤ 24000 ∧ ((spd r.2 i x).den : Int) ≤ 1200 := fun x hx => by
    have h1 := small_sp (hsp x hx).1 (hsp x hx).2 hbi.2 (spd_den h i x)
    exact ⟨h1.1, h1.2, spd_den h i x⟩
  have hwq : ∀ x, x < goodsN V → Wb (worQ V r.1 r.2 i x) := fun x hx => by
    obtain ⟨c1, c2, c3⟩ := hsm x hx
    exact quot_wb (hu i x) c1 c2 c3 (pri_sm h hx)
  refine ⟨hsm g hg, hwq g hg, ?_⟩
  have hg3 : g = 0 ∨ g = 1 ∨ g = 2 := by omega
  rcases hg3 with rfl | rfl | rfl
  · exact Wb.zero
  · have e : worTo V r.1 r.2 i 1 = worQ V r.1 r.2 i 0 := by
      show (0 : Rat) + worQ V r.1 r.2 i 0 = _
      grind
    rw [e]
    exact hwq 0 (by omega)
  · have hk : goodsN V = 3 := by omega
    have e : worTo V r.1 r.2 i 2 = worQ V r.1 r.2 i 0 + worQ V r.1 r.2 i 1 := by
      show (0 : Rat) + worQ V r.1 r.2 i 0 + worQ V r.1 r.2 i 1 = _
      grind
    rw [e]
    by_cases h0 : spd r.2 i 0 = 0
    · have e1 : worQ V r.1 r.2 i 0 = 0 := by unfold worQ; rw [h0, Rat.mul_zero, Rat.div_def, Rat.zero_mul]
      rw [e1, Rat.zero_add]
      exact hwq 1 (by omega)
    · by_cases h1 : spd r.2 i 1 = 0
      · have e1 : worQ V r.1 r.2 i 1 = 0 := by unfold worQ; rw [h1, Rat.mul_zero, Rat.div_def, Rat.zero_mul]
        rw [e1, Rat.add_zero]
        exact hwq 0 (by omega)
      · have w0 := hE.want i 0 hi (by omega) h0 1 (by omega)
        have w1 := hE.want i 1 hi (by omega) h1 0 (by omega)
        have p0 := hE.pos 0 (by omega)
        have p1 := hE.pos 1 (by omega)
        have hrow := hE.row i hi
        rw [hk] at hrow
        have hrow' : (0 : Rat) + spd r.2 i 0 + spd r.2 i 1 + spd r.2 i 2 = budQ B i := hrow
        have hs := hsp 2 (by omega)
        have hd := sub_den (b := B.getD i 0) (x := spd r.2 i 2) (by have := hs.2; grind) hbi.2 hs.1 (spd_den h i 2)
        have hq := quot_wb (hu i 0) hd.1 hd.2.1 hd.2.2 (pri_sm h (g := 0) (by omega))
        have e2 : worQ V r.1 r.2 i 0 + worQ V r.1 r.2 i 1 = ((useN V i 0 : Int) : Rat) * (((B.getD i 0 : Int) : Rat) - spd r.2 i 2) / priQ r.1 0 := by
          have hb' : ((B.getD i 0 : Int) : Rat) - spd r.2 i 2 = spd r.2 i 0 + spd r.2 i 1 := by
            have : budQ B i = ((B.getD i 0 : Int) : Rat) := rfl
            grind
          rw [hb']
          unfold worQ
          have hu0 : useQ V i 0 = ((useN V i 0 : Int) : Rat) := rfl
          rw [← hu0]
          have heq : useQ V i 0 * priQ r.1 1 = useQ V i 1 * priQ r.1 0 := by grind
          generalize priQ r.1 0 = q0 at *
          generalize priQ r.1 1 = q1 at *
          generalize useQ V i 0 = c0 at *
          generalize useQ V i 1 = c1 at *
          generalize spd r.2 i 0 = s0 at *
          generalize spd r.2 i 1 = s1 at *
          have e3 : c1 / q1 = c0 / q0 := by
            have : c1 = c0 * q1 / q0 := by grind
            rw [this]
            grind
          have e4 : c1 * s1 / q1 = c0 / q0 * s1 := by
            rw [← e3]
            grind
          rw [e4]
          grind
        rw [e2]
        exact hq
end

/- Contract: Worth of package market. -/

def WorthPost (B : List Int) (V : List (List Int)) (w : World) (x : Ending) (w' : World) : Prop :=
  Below w.heap.size w w' ∧ match prF B V with
    | none => x = .returned (.tuple #[.slice none 0 0, .int .i64 2])
    | some r => ∃ A' c', x = .returned (.tuple #[.slice A' B.length c', .int .i64 0]) ∧ Go.Proofs.Ytnljnjnmhbkdoaa.Fracs w' A' (worL V B.length (goodsN V) r)
theorem mplus_wb (p q : Rat) (w : World) (hp : Wb p) (hq : Wb q) : Calls Try.prog 48 #[.agg #[.int .i64 p.num, .int .i64 (p.den : Int)], .agg #[.int .i64 q.num, .int .i64 (q.den : Int)]] w fun e w' => e = .returned (.agg #[.int .i64 (p + q).num, .int .i64 ((p + q).den : Int)]) ∧ Below w.heap.size w w' := by
  have p0 := den_pos p
  have q0 := den_pos q
  obtain ⟨p1, p2, p3⟩ := hp
  obtain ⟨q1, q2, q3⟩ := hq
  have a := mul_shrink (a := p.num) (b := 576000000) (c := (q.den : Int)) (m := 4000000000000000000) (by omega) (by omega) (by omega) (by omega)
  have b := mul_shrink (a := q.num) (b := 576000000) (c := (p.den : Int)) (m := 4000000000000000000) (by omega) (by omega) (by omega) (by omega)
  have c := mul_shrink (a := (p.den : Int)) (b := 57600000) (c := (q.den : Int)) (m := 4000000000000000000) (by omega) (by omega) (by omega) (by omega)
  exact mplus_raw p q w a.1 a.2 b.1 b.2 c.2 (by omega) (by omega)
theorem worQ_eq (V : List (List Int)) (P : List Rat) (S : List (List Rat)) (i g : Nat) : ((useN V i g : Int) : Rat) * spd S i g / priQ P g = worQ V P S i g := rfl
set_option maxRecDepth 100000 in
set_option maxHeartbeats 4000000 in
theorem mworth_any (A : Option Addr) (n c : Nat) (U : Option Addr) (m d : Nat) (B : List Int) (V : List (List Int)) (w : World) (h : MktAt w A n U m B V) (hn : n ≤ 1000) (hm : m ≤ 1000) (hr : ∀ r ∈ V, r.length ≤ 1000) (hex : Found B V) :
    Calls Try.prog 27 #[mktV A n c U m d] w (WorthPost B V w) := by
  have hb1 : Below w.heap.size w (w.alloc (.cells #[.slice A n c, .slice U m d] 30)) := (Below.refl _ _).alloc (Nat.le_refl _) _
  have hM1 : Blk (w.alloc (.cells #[.slice A n c, .slice U m d] 30)) w.heap.size 30 #[.slice A n c, .slice U m d] := Blk.new _ _ _ rfl
  have HV := Lib.hid (mvalid_any A n c U m d B V _ (h.below hb1) hn hm hr)
  have H := Lib.hid (And.intro h (And.intro hex (And.intro hb1 hM1)))
  clear h hex hb1 hM1
  unfold mktV
  go_enter Try.func27, Try.ntmps27
  go_wp2_with fail
  refine HV.out.mono ?_
  rintro e w2 ⟨rfl, hb2⟩
  have hM2 := H.out.2.2.2.below hb2 (by simp)
  have hbw := H.out.2.2.1.trans (hb2.mono H.out.2.2.1.size)
  obtain ⟨m1, m2, _, _⟩ := hM2.at2
  have H2 := Lib.hid (And.intro hM2 hbw)
  clear hM2 hbw hb2 HV
  cases hv : validM B V with
  | false =>
    have HP : Hid (prF B V = none) := Lib.hid (by unfold prF; rw [if_neg (by rw [hv]; decide)])
    clear hv
    go_wp2_with fail
    go_ret2
    exact ⟨H2.out.2, by rw [HP.out]; rfl⟩
  | true =>
    obtain ⟨rfl, hmk⟩ := mkIn_of H.out.1 hv
    obtain ⟨r, hbf⟩ := H.out.2.1 hv
    have HP : Hid (prF B V = some r) := Lib.hid (by unfold prF; rw [if_pos hv]; exact hbf)
    have hok := (prF_ok HP.out).2
    have HWB : Hid (∀ i g, i < m → g < goodsN V → (0 ≤ (spd r.2 i g).num ∧ (spd r.2 i g).num ≤ 24000 ∧ ((spd r.2 i g).den : Int) ≤ 1200) ∧ Wb (worQ V r.1 r.2 i g) ∧ Wb (worTo V r.1 r.2 i g) ∧ PrS (priQ r.1 g)) := Lib.hid fun i g hi hg => by
      rw [← H.out.1.hB] at hi
      have := wor_wb hv hok hi hg
      exact ⟨this.1, this.2.1, this.2.2, pri_sm hok hg⟩
    have HB : Hid (Calls Try.prog 40 #[mktV A m c U m d] w2 (BalPost B V m (goodsN V) w2)) := Lib.hid (mbalance_any A m c U d (goodsN V) B V w2 (hmk.below H2.out.2))
    have hBm := H.out.1.hB
    rw [hBm] at hbf
    have hm3 := hmk.hn
    obtain ⟨k, hkk⟩ : ∃ k, k = goodsN V := ⟨_, rfl⟩
    have hk3 := hmk.hk
    have hls := hok.ls
    have hlp := hok.lp
    have hlr := hok.lr
    have hrw := hmk.rows
    rw [hBm] at hls
    rw [← hkk] at hbf hlp hlr hk3 HWB HB hrw
    have HBF := Lib.hid (And.intro hbf (And.intro hls (And.intro hlp (And.intro hlr (And.intro hkk hrw)))))
    clear hv hbf hok hmk hls hlp hlr hkk hrw
    go_wp2_with fail
    refine HB.out.mono ?_
    intro ev w5 hpost
    unfold BalPost at hpost
    rw [HBF.out.1] at hpost
    obtain ⟨hb5, PB, SB, rfl, hm5⟩ := hpost
    have H5 := Lib.hid (And.intro hb5 hm5)
    have hs5 := hb5.size
    have hb05 := H2.out.2.trans (hb5.mono H2.out.2.size)
    obtain ⟨w6, hw6⟩ : ∃ w6, w6 = w5.alloc (.cells #[.slice (some ⟨PB, 0, none⟩) k k, .slice (some ⟨SB, 0, none⟩) m m] 66) := ⟨_, rfl⟩
    have hb56 : Below w5.heap.size w5 w6 := by rw [hw6]; exact (Below.refl _ _).alloc (Nat.le_refl _) _
    have hB6 : Blk w6 w5.heap.size 66 #[.slice (some ⟨PB, 0, none⟩) k k, .slice (some ⟨SB, 0, none⟩) m m] := by rw [hw6]; exact Blk.new _ _ _ rfl
    have hs6 : w6.heap.size = w5.heap.size + 1 := by rw [hw6]; simp
    have hM6 := (H2.out.1.below hb5 H2.out.1.lt).below hb56 (by have := H2.out.1.lt; omega)
    obtain ⟨y0, y1, _, _⟩ := hB6.at2
    have hF6 := hm5.get.1.below hb56
    have hS6 := hm5.get.2.below hb56
    have H6 := Lib.hid (And.intro (hb05.trans (hb56.mono hb05.size)) (And.intro hB6 (And.intro hM6 (And.intro hF6 hS6))))
    clear hb5 hm5 m1 m2 HB hb05 hb56 hB6 hM6 hF6 hS6
    unfold balV
    go_wp2_with fail
    rw [← hw6]
    clear hw6
    go_loopw [5, 19] (fun ov iv wx => ∃ (i : Nat) (A2 : Option Addr) (c2 : Nat), i ≤ m ∧ iv = .int .i64 i ∧ ov = .slice A2 i c2 ∧ wx.ownsRow w6.heap.size 77 2 (.slice A2 i c2) i (fcells ((worL V m k r).take i)) ∧ Below w6.heap.size w6 wx) (fun _ iv _ => m - (intOf iv).toNat)
    case atStart => exact ⟨0, none, 0, Nat.zero_le _, rfl, rfl, by simpa [fcells] using World.ownsRow_nil _ _ _ _, Below.refl _ _⟩
    case round =>
      obtain ⟨i, A2, c2, hi, rfl, rfl, hown, hbl⟩ := hrel
      obtain ⟨wo, rfl⟩ : ∃ wo : World, wo = wr := ⟨_, rfl⟩
      have HR := Lib.hid (And.intro hown hbl)
      have hos := hbl.size
      clear hown hbl
      by_cases him : i < m
      · obtain ⟨x, hx⟩ : ∃ x, r.2[i]? = some x := ⟨_, List.getElem?_eq_getElem (by rw [HBF.out.2.1]; exact him)⟩
        obtain ⟨ad, A3, c3, hA, hc, hF⟩ := H6.out.2.2.2.2 i x hx
        injection hA with hA
        subst hA
        have hxl := HBF.out.2.2.2.1 x (List.mem_of_getElem? hx)
        have hsx : ∀ g, spd r.2 i g = x.getD g 0 := fun g => by unfold spd rowQ; rw [List.getD_eq_getElem?_getD (l := r.2), hx]; rfl
        have c1 := (HR.out.2.cell (lt_of_cell hc)).trans hc
        have e1 : (⟨SB, 0, none⟩ : Addr).add i = ⟨SB, i, none⟩ := by
          cases i with
          | zero => simp [Addr.add]
          | succ j => simp [Addr.add]
        rw [e1, hxl] at c1
        have HX := Lib.hid (And.intro hx (And.intro hxl (And.intro hF hsx)))
        have hnx : (worL V m k r).take (i + 1) = (worL V m k r).take i ++ [worTo V r.1 r.2 i k] := by
          unfold worL
          exact map_take_next (List.getElem?_range him)
        have HNX := Lib.hid hnx
        clear hx hc hF hxl e1 hsx hnx
        go_wp2_with fail
        refine (mwhole_any 0 _).mono ?_
        rintro e w7 ⟨rfl, hb7⟩
        rw [fr_int]
        have hs7 := hb7.size
        have H7 := Lib.hid (HR.out.2.trans (hb7.mono hos))
        have H7o := Lib.hid (own_below HR.out.1 hb7)
        clear hb7 c1
        go_wp2_with fail
        go_loopw [27] (fun gv wx => ∃ g : Nat, g ≤ k ∧ gv = .int .i64 g ∧ Blk wx w7.heap.size 77 #[.int .i64 (worTo V r.1 r.2 i g).num, .int .i64 ((worTo V r.1 r.2 i g).den : Int)] ∧ Below w7.heap.size w7 wx) (fun gv _ => k - (intOf gv).toNat)
        case atStart => exact ⟨0, Nat.zero_le _, rfl, Blk.new _ _ _ rfl, (Below.refl _ _).alloc (Nat.le_refl _) _⟩
        case round =>
          obtain ⟨g, hg, rfl, hBl, hbl⟩ := hrel
          obtain ⟨wl, rfl⟩ : ∃ wl : World, wl = wr := ⟨_, rfl⟩
          have hls := hBl.lt
          have HL := Lib.hid (And.intro hBl hbl)
          clear hBl hbl
          by_cases hgk : g < k
          · have h6l := H7.out.trans (HL.out.2.mono H7.out.size)
            obtain ⟨q, hq⟩ : ∃ q, x[g]? = some q := ⟨_, List.getElem?_eq_getElem (by rw [HX.out.2.1]; exact hgk)⟩
            obtain ⟨a3, hA3, _, hc3⟩ := (HX.out.2.2.1.below h6l).some_ (by rw [HX.out.2.1]; omega)
            subst hA3
            obtain ⟨v1, v2⟩ := hc3 g q hq
            have hsq : spd r.2 i g = q := by rw [HX.out.2.2.2, List.getD_eq_getElem?_getD, hq]; rfl
            obtain ⟨p, hp⟩ : ∃ p, r.1[g]? = some p := ⟨_, List.getElem?_eq_getElem (by rw [HBF.out.2.2.1]; exact hgk)⟩
            have hpp : priQ r.1 g = p := by unfold priQ; rw [List.getD_eq_getElem?_getD, hp]; rfl
            obtain ⟨wb1, wb2, wb3, wb4⟩ := HWB.out i g him hgk
            rw [hpp] at wb4
            rw [hsq] at wb1
            have hwq : ((useN V i g : Int) : Rat) * q / p = worQ V r.1 r.2 i g := by rw [← worQ_eq, hsq, hpp]
            have hub := useN_bd HBF.out.2.2.2.2.2 i g
            obtain ⟨w8, hw8⟩ : ∃ w8, w8 = wl.alloc (.cells #[.int .i64 q.num, .int .i64 (q.den : Int)] 77) := ⟨_, rfl⟩
            have hb8 : Below wl.heap.size wl w8 := by rw [hw8]; exact (Below.refl _ _).alloc (Nat.le_refl _) _
            have hX8 : Blk w8 wl.heap.size 77 #[.int .i64 q.num, .int .i64 (q.den : Int)] := by rw [hw8]; exact Blk.new _ _ _ rfl
            have h68 := h6l.trans (hb8.mono h6l.size)
            have h08 := H6.out.1.trans (h68.mono H6.out.1.size)
            obtain ⟨f1, f2, _, _⟩ := (HL.out.1.below hb8 hls).at2
            obtain ⟨f3, f4, _, _⟩ := hX8.at2
            obtain ⟨f5, f6, _, _⟩ := (H6.out.2.1.below h68 (by omega)).at2
            obtain ⟨_, f7, _, _⟩ := (H6.out.2.2.1.below h68 (by have := H6.out.2.2.1.lt; omega)).at2
            obtain ⟨aP, hAP, _, hcP⟩ := (H6.out.2.2.2.1.below h68).some_ (by rw [HBF.out.2.2.1]; omega)
            injection hAP with hAP
            subst hAP
            obtain ⟨f8, f9⟩ := hcP g p hp
            obtain ⟨aU, hAU, _, hcU⟩ := H.out.1.uses.some_ (by rw [H.out.1.hV]; omega)
            have hVb := rowV_some (V := V) (i := i) (by rw [H.out.1.hV]; exact him)
            have hrl := rowOk_iff.1 (HBF.out.2.2.2.2.2 _ (List.mem_of_getElem? hVb))
            obtain ⟨R2, cr2, u1, _, _, hR⟩ := hcU i _ hVb
            rw [hrl.1] at u1
            obtain ⟨ar2, hRe2, _, hcR⟩ := hR.some_ (by rw [hrl.1]; omega)
            subst hRe2
            have u2 := hcR g (useN V i g) (by unfold useN; rw [List.getD_eq_getElem?_getD, List.getElem?_eq_getElem (by rw [hrl.1]; exact hgk)]; rfl)
            have f10 := (h08.cell (lt_of_cell u1)).trans u1
            have f11 := (h08.cell (lt_of_cell u2)).trans u2
            have eP : ∀ j : Nat, (⟨PB, 0, none⟩ : Addr).add j = ⟨PB, j, none⟩ := fun j => by
              cases j with
              | zero => simp [Addr.add]
              | succ j => simp [Addr.add]
            rw [eP] at f8 f9
            obtain ⟨u, hu⟩ : ∃ u, u = useN V i g := ⟨_, rfl⟩
            rw [← hu] at hub f11 hwq
            obtain ⟨t, ht⟩ : ∃ t, t = worQ V r.1 r.2 i g := ⟨_, rfl⟩
            rw [← ht] at hwq wb2
            obtain ⟨s, hs⟩ : ∃ s, s = worTo V r.1 r.2 i g := ⟨_, rfl⟩
            rw [← hs] at wb3
            simp only [← hs] at f1 f2
            have hst : s + t = worTo V r.1 r.2 i (g + 1) := by rw [hs, ht]; rfl
            have HWH : Hid (∀ s' : Desc w8, Calls Try.prog 47 #[.int .i64 u] s'.val fun e w'' => e = .returned (.agg #[.int .i64 u, .int .i64 1]) ∧ ∃ s'' : Desc w8, w'' = s''.val) := Lib.hid fun s' => Calls.desc_of (by
              have := mwhole_any u s'.val
              rw [fr_int] at this
              exact this)
            obtain ⟨y, hy⟩ : ∃ y, y = (u : Rat) * q := ⟨_, rfl⟩
            have hqd := den_pos q
            have HTM : Hid (∀ s' : Desc w8, Calls Try.prog 49 #[.agg #[.int .i64 u, .int .i64 1], .agg #[.int .i64 q.num, .int .i64 (q.den : Int)]] s'.val fun e w'' => e = .returned (.agg #[.int .i64 y.num, .int .i64 (y.den : Int)]) ∧ ∃ s'' : Desc w8, w'' = s''.val) := Lib.hid fun s' => Calls.desc_of (by
              have := mtimes_sm (u : Rat) q s'.val ⟨by rw [Rat.num_intCast]; omega, by rw [Rat.num_intCast]; omega, by rw [Rat.den_intCast]; decide⟩ ⟨by omega, by omega, by omega⟩ wb1.1
              rw [← hy, Rat.num_intCast, Rat.den_intCast] at this
              exact this)
            have hyb : Sm y := by
              have h0 : y = ((u * q.num : Int) : Rat) / ((q.den : Int) : Rat) := by
                rw [hy, Rat.intCast_mul]
                have hx' := num_den_of q
                have a1 : ((q.den : Int) : Rat) ≠ 0 := rat_ne (by omega)
                generalize ((q.den : Int) : Rat) = xd at *
                generalize (q.num : Rat) = xn at *
                rw [hx']
                grind
              have h1 : 0 ≤ u * q.num ∧ u * q.num ≤ 20 * 24000 := ⟨Int.mul_nonneg hub.1 wb1.1, Int.mul_le_mul hub.2 wb1.2.1 wb1.1 (by omega)⟩
              have h4 := frac_bd (by omega) h0
              have h5 := frac_nn (by omega) h1.1 h0
              unfold Sm
              omega
            have HOV : Hid (∀ s' : Desc w8, Calls Try.prog 50 #[.agg #[.int .i64 y.num, .int .i64 (y.den : Int)], .agg #[.int .i64 p.num, .int .i64 (p.den : Int)]] s'.val fun e w'' => e = .returned (.agg #[.int .i64 t.num, .int .i64 (t.den : Int)]) ∧ ∃ s'' : Desc w8, w'' = s''.val) := Lib.hid fun s' => Calls.desc_of (by
              have := mover_sm y p s'.val hyb ⟨by have := wb4.1; omega, by have := wb4.2.1; omega, by have := wb4.2.2; omega⟩ (by have := wb4.1; omega)
              rw [hy, hwq, ← hy] at this
              exact this)
            obtain ⟨z, hz⟩ : ∃ z, z = worTo V r.1 r.2 i (g + 1) := ⟨_, rfl⟩
            have HPL : Hid (∀ s' : Desc w8, Calls Try.prog 48 #[.agg #[.int .i64 s.num, .int .i64 (s.den : Int)], .agg #[.int .i64 t.num, .int .i64 (t.den : Int)]] s'.val fun e w'' => e = .returned (.agg #[.int .i64 z.num, .int .i64 (z.den : Int)]) ∧ ∃ s'' : Desc w8, w'' = s''.val) := Lib.hid fun s' => Calls.desc_of (by
              have := mplus_wb s t s'.val wb3 wb2
              rw [hst, ← hz] at this
              exact this)
            have HZ := Lib.hid hz
            have d1 : ∀ s : Desc w8, s.val.cell? ⟨w7.heap.size, 0, none⟩ = some (.int .i64 _) := fun s => s.cell f1
            have d2 : ∀ s : Desc w8, s.val.cell? ⟨w7.heap.size, 1, none⟩ = some (.int .i64 _) := fun s => s.cell f2
            have d3 : ∀ s : Desc w8, s.val.cell? ⟨wl.heap.size, 0, none⟩ = some (.int .i64 q.num) := fun s => s.cell f3
            have d4 : ∀ s : Desc w8, s.val.cell? ⟨wl.heap.size, 1, none⟩ = some (.int .i64 (q.den : Int)) := fun s => s.cell f4
            have d5 : ∀ s : Desc w8, s.val.cell? ⟨w5.heap.size, 0, none⟩ = some (.slice (some ⟨PB, 0, none⟩) k k) := fun s => s.cell f5
            have d7 : ∀ s : Desc w8, s.val.cell? ⟨w.heap.size, 1, none⟩ = some (.slice U m d) := fun s => s.cell f7
            have d8 : ∀ s : Desc w8, s.val.cell? ⟨PB, g * 2, none⟩ = some (.int .i64 p.num) := fun s => s.cell f8
            have d9 : ∀ s : Desc w8, s.val.cell? ⟨PB, g * 2 + 1, none⟩ = some (.int .i64 (p.den : Int)) := fun s => s.cell f9
            have d10 : ∀ s : Desc w8, s.val.cell? (aU.add i) = some (.slice (some ar2) k cr2) := fun s => s.cell f10
            have d11 : ∀ s : Desc w8, s.val.cell? (ar2.add g) = some (.int .i64 u) := fun s => s.cell f11
            have H8 := Lib.hid (And.intro (HL.out.1.below hb8 hls) (HL.out.2.trans (hb8.mono HL.out.2.size)))
            subst hAU
            clear f1 f2 f3 f4 f5 f6 f7 f8 f9 f10 f11 hcP hcR hcU hR u1 u2 hVb hrl eP hu ht hs hst hyb hy hz hub hwq wb1 wb2 wb3 wb4 hpp hsq hq hp hc3 hX8 hb8 h6l h68 h08
            go_wp2_with fail
            rw [← hw8]
            clear hw8
            refine wp_region_desc_tail 19 (by kernel_rfl) (by kernel_rfl) ?_
            simp only [List.take_succ_cons, List.take_zero, List.drop_succ_cons, List.drop_zero]
            repeat (go_big_quiet_step (first | (go_at_call 47; exact HWH.out _) | (go_at_call 49; exact HTM.out _) | (go_at_call 50; exact HOV.out _) | (go_at_call 48; exact HPL.out _)))
            refine wpQuiet_nil ?_
            rintro _ ⟨sd, rfl⟩
            have hb9 := sd.below
            generalize sd.val = w9 at hb9 ⊢
            clear d1 d2 d3 d4 d5 d7 d8 d9 d10 d11
            have hB9 := H8.out.1.below hb9 H8.out.1.lt
            obtain ⟨r1, r2, r3, r4⟩ := hB9.at2
            have H9 := Lib.hid (And.intro hB9 (H8.out.2.trans (hb9.mono H8.out.2.size)))
            clear hB9 hb9
            go_wp2_with fail
            go_roundw
            case rel =>
              have h9 := (Blk.set_ (Blk.set_ H9.out.1 0 (.int .i64 z.num)) 1 (.int .i64 (z.den : Int)))
              refine ⟨g + 1, by omega, by go_num, ?_, (H9.out.2.setCell (by simp) _).setCell (by simp) _⟩
              rw [← HZ.out]
              exact h9
            case measure => simp [intOf]; omega
          · obtain rfl : k = g := by omega
            obtain ⟨r1, r2, _, _⟩ := HL.out.1.at2
            obtain ⟨z, hz⟩ : ∃ z, z = worTo V r.1 r.2 i k := ⟨_, rfl⟩
            rw [← hz] at HNX
            simp only [← hz] at r1 r2
            have hown := own_below H7o.out (HL.out.2)
            have H8 := Lib.hid (And.intro hown (H7.out.trans (HL.out.2.mono H7.out.size)))
            have hsz : w6.heap.size ≤ wl.heap.size := H8.out.2.size
            clear hz hown
            go_wp2_with (at_builtin; refine app1g sty_mfrac rfl _ _ rfl w6.heap.size A2 i c2 _ #[.int .i64 z.num, .int .i64 (z.den : Int)] rfl (by simp [Value.oneCell']) rfl H8.out.1 _ rfl (by simp) (by omega) hsz ?_)
            intro A5 k5 w9 hown9 hg9 hbl9 hk91 hk92
            have hnx : fcells ((worL V m k r).take (i + 1)) = fcells ((worL V m k r).take i) ++ [.int .i64 z.num, .int .i64 (z.den : Int)] := by rw [HNX.out, fcells_snoc]
            rw [← hs6] at hown9 hbl9
            have H9 := Lib.hid (And.intro hown9 (And.intro hnx (H8.out.2.trans hbl9)))
            clear hown9 hg9 hbl9 hnx
            go_wp2_with fail
            go_roundw
            case rel => exact ⟨i + 1, A5, k5, by omega, by go_num, rfl, by rw [H9.out.2.1]; exact H9.out.1, H9.out.2.2⟩
            case measure => simp [intOf]; omega
      · obtain rfl : m = i := by omega
        have hown := HR.out.1
        rw [List.take_of_length_le (by simp [worL])] at hown
        have HFR : Hid (Calls Try.prog 39 #[.slice A2 m c2] wo fun e w' => ∃ A' c', e = .returned (.slice A' m c') ∧ w'.ownsRow wo.heap.size 37 2 (.slice A' m c') m (pcells ((worL V m k r).map pr)) ∧ Below wo.heap.size wo w') := Lib.hid (mfracs_any A2 m c2 ((worL V m k r).map pr) wo (by simp [worL]) hm (by
          have := Fracs.of_cells (At.of_own hown)
          exact this))
        clear hown
        go_wp2_with fail
        refine HFR.out.mono ?_
        rintro e w9 ⟨A', c', rfl, hown9, hb9⟩
        have H9 := Lib.hid (And.intro hown9 hb9)
        clear hown9 hb9 HFR
        go_wp2_with fail
        go_ret2
        have h6 := H6.out.1.trans (HR.out.2.mono H6.out.1.size)
        refine ⟨h6.trans (H9.out.2.mono h6.size), ?_⟩
        rw [HP.out]
        refine ⟨A', c', by rw [hBm]; rfl, ?_⟩
        have := At.of_own H9.out.1
        rw [hBm, ← HBF.out.2.2.2.2.1]
        exact this

/- Contract: awake of the laws' package. -/

theorem awake_price {r : List Rat × List (List Rat)} (h : prF [7] [[3]] = some r) : r.1 = [7] := by
  obtain ⟨hv, hs⟩ := prF_ok h
  have hE := hs.equi hv
  have h1 := hE.row 0 (by decide)
  have h2 := hE.col 0 (by decide)
  have hg : goodsN [[3]] = 1 := rfl
  have hl := hs.lp
  rw [hg] at hl h1
  have h1' : (0 : Rat) + spd r.2 0 0 = budQ [7] 0 := h1
  have h2' : (0 : Rat) + spd r.2 0 0 = priQ r.1 0 := h2
  have h3 : budQ [7] 0 = 7 := rfl
  have h4 : priQ r.1 0 = 7 := by grind
  obtain ⟨x, hx⟩ := List.length_eq_one_iff.1 hl
  rw [hx] at h4 ⊢
  have : priQ [x] 0 = x := rfl
  rw [this] at h4
  rw [h4]
theorem awake_some : ∃ r, prF [7] [[3]] = some r := by
  have hv : validM [7] [[3]] = true := by decide
  obtain ⟨r, hr⟩ := found_any [7] [[3]] hv
  exact ⟨r, by unfold prF; rw [if_pos hv]; exact hr⟩
set_option maxRecDepth 100000 in
set_option maxHeartbeats 1600000 in
theorem l4awake_any (w : World) : Calls Try.prog 17 #[] w fun e w' => e = .returned (.bool true) ∧ Below w.heap.size w w' := by
  obtain ⟨w3, hw3⟩ : ∃ w3, w3 = ((w.alloc (.cells #[.int .i64 7] 3)).alloc (.cells #[.int .i64 3] 3)).alloc (.cells #[.slice (some ⟨w.heap.size + 1, 0, none⟩) 1 1] 22) := ⟨_, rfl⟩
  have hb3 : Below w.heap.size w w3 := by rw [hw3]; exact (((Below.refl _ _).alloc (Nat.le_refl _) _).alloc (by simp) _).alloc (by simp; omega) _
  have hA : Blk w3 w.heap.size 3 #[.int .i64 7] := by rw [hw3]; exact ((Blk.new _ _ _ rfl).alloc _).alloc _
  have hB : Blk w3 (w.heap.size + 1) 3 #[.int .i64 3] := by rw [hw3]; exact (Blk.new _ _ _ (by simp)).alloc _
  have hC : Blk w3 (w.heap.size + 2) 22 #[.slice (some ⟨w.heap.size + 1, 0, none⟩) 1 1] := by rw [hw3]; exact Blk.new _ _ _ (by simp)
  have hs3 : w3.heap.size = w.heap.size + 3 := by rw [hw3]; simp
  have hmk : MktAt w3 (some ⟨w.heap.size, 0, none⟩) 1 (some ⟨w.heap.size + 2, 0, none⟩) 1 [7] [[3]] := {
    hB := rfl
    hV := rfl
    budgets := Blk.at_ (cs := #[.int .i64 7]) hA
    uses := fun j r hj => by
      have hj0 : j = 0 := by
        have := (List.getElem?_eq_some_iff.1 hj).1
        simp at this
        exact this
      subst hj0
      simp at hj
      subst hj
      refine ⟨⟨w.heap.size + 2, 0, none⟩, some ⟨w.heap.size + 1, 0, none⟩, 1, rfl, ?_, Nat.le_refl _, by decide, Blk.at_ (cs := #[.int .i64 3]) hB⟩
      have := hC.at1.1
      simpa [Addr.add] using this }
  obtain ⟨r, hr⟩ := awake_some
  have hr1 := awake_price hr
  have HP : Hid (Calls Try.prog 14 #[mktV (some ⟨w.heap.size, 0, none⟩) 1 1 (some ⟨w.heap.size + 2, 0, none⟩) 1 1] w3 (PricesPost [7] [[3]] w3)) := Lib.hid (mprices_any _ 1 1 _ 1 1 [7] [[3]] w3 hmk (by decide) (by decide) (by decide) (found_any _ _))
  have H := Lib.hid (And.intro hb3 (And.intro hr hr1))
  have HW3 := Lib.hid hw3
  clear hb3 hA hB hC hmk hr hr1
  go_enter Try.func17, Try.ntmps17
  go_wp2_with fail
  rw [← hw3]
  refine HP.out.mono ?_
  intro ev w4 hpost
  unfold PricesPost at hpost
  rw [H.out.2.1] at hpost
  obtain ⟨hb4, A', c', rfl, hown⟩ := hpost
  rw [H.out.2.2] at hown
  rw [H.out.2.2]
  have H4 := Lib.hid (And.intro (H.out.1.trans (hb4.mono H.out.1.size)) hown)
  clear hb4 hown hw3 HP
  go_wp2_with fail
  refine (l4whole_any 7 _).mono ?_
  rintro e w5 ⟨rfl, hb5⟩
  rw [fr_int]
  have hfr := Fracs.of_cells (At.of_own (own_below H4.out.2 hb5))
  have hb45 := H4.out.1.trans (hb5.mono H4.out.1.size)
  have hbz : Below w5.heap.size w5 (w5.alloc (.cells #[.int .i64 7, .int .i64 1] 37)) := (Below.refl _ _).alloc (Nat.le_refl _) _
  have hN : Fracs (w5.alloc (.cells #[.int .i64 7, .int .i64 1] 37)) (some ⟨w5.heap.size, 0, none⟩) [7] := Blk.at_ (cs := #[.int .i64 7, .int .i64 1]) (Blk.new _ _ _ rfl)
  have H5 := Lib.hid (And.intro (hfr.below hbz) (And.intro hN (hb45.trans (hbz.mono hb45.size))))
  clear hb5 hfr hb45 hbz hN
  go_wp2_with fail
  refine (equalF_any A' (some ⟨w5.heap.size, 0, none⟩) 1 1 c' 1 [7] [7] _ rfl rfl (by decide) H5.out.1 H5.out.2.1).mono ?_
  rintro e w9 ⟨rfl, m9, rfl⟩
  go_wp2_with fail
  go_ret
  exact ⟨by rfl, below_drewN H5.out.2.2 m9⟩
end Go.Proofs.Ytnljnjnmhbkdoaa
