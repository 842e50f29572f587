/- Laws and contracts that the proof of TopNash uses, part 5. -/
import Derived.Test.YtoeohpkdjlfooaaTopNashM4
import Derived.Test.YtoeohpkdjlfooaaMCompA
import Derived.Test.YtoeohpkdjlfooaaTopNashM2
import Derived.Test.YtoeohpkdjlfooaaTopNashM3
import Derived.Test.YtoeohpkdjlfooaaTopNashM1
import Derived.Deep.LoopGhost
namespace Go.Proofs.Ytoeohpkdjlfooaa
open Go.RowKit

/- Contract: solve of package market. -/

/-- What solve leaves. -/
def SolPost (B : List Int) (V : List (List Int)) (e n k : Nat) (w : World) (x : Ending) (w' : World) : Prop :=
  Below w.heap.size w w' ∧ match solF B V e n k with
    | none => ∃ (A1 : Option Addr) (a1 b1 : Nat) (A2 : Option Addr) (a2 b2 : Nat), x = .returned (.tuple #[.agg #[.slice A1 a1 b1, .slice A2 a2 b2], .bool false])
    | some r => ∃ PB SB, x = .returned (.tuple #[balV (some ⟨PB, 0, none⟩) k k (some ⟨SB, 0, none⟩) n n, .bool true]) ∧ BalMem w.heap.size w' PB SB r
set_option maxRecDepth 100000 in
set_option maxHeartbeats 4000000 in
theorem msolve_any (A : Option Addr) (n c : Nat) (U : Option Addr) (d k e : Nat) (B : List Int) (V : List (List Int)) (w : World) (h : MkIn w A n U k B V) (he : e < 512) :
    Calls Try.prog 33 #[mktV A n c U n d, .int .i64 (e : Int)] w (SolPost B V e n k w) := by
  obtain ⟨w1, hw1⟩ : ∃ w1, w1 = (w.alloc (.cells #[.slice A n c, .slice U n d] 28)).alloc (.cells #[.slice none 0 0, .slice none 0 0] 47) := ⟨_, rfl⟩
  have hb1 : Below w.heap.size w w1 := by rw [hw1]; exact ((Below.refl _ _).alloc (Nat.le_refl _) _).alloc (by simp) _
  have hM1 : Blk w1 w.heap.size 28 #[.slice A n c, .slice U n d] := by rw [hw1]; exact (Blk.new _ _ _ rfl).alloc _
  have hR1 : Blk w1 (w.heap.size + 1) 47 #[.slice none 0 0, .slice none 0 0] := by rw [hw1]; exact Blk.new _ _ _ (by simp)
  have hsz1 : w1.heap.size = w.heap.size + 2 := by rw [hw1]; simp
  obtain ⟨x0, x1, _, _⟩ := hM1.at2
  have h1 := h.below hb1
  have hn := h.hn
  have hk := h.hk
  have H := Lib.hid (And.intro h (And.intro h1 (And.intro hb1 (And.intro hM1 (And.intro hR1 he)))))
  clear h h1 hb1 hM1 hR1 he
  unfold mktV
  go_enter Try.func33, Try.ntmps33
  go_upto_region 1 with fail
  rw [← hw1]
  have HGO : Hid (∀ s : Desc w1, Calls Try.prog 32 #[.agg #[.slice A n c, .slice U n d]] s.val fun e w'' => e = .returned (.int .i64 (k : Int)) ∧ ∃ s' : Desc w1, w'' = s'.val) := Lib.hid fun s => Calls.desc_of (by
    have := mgoods_any A n c U n d B V s.val (H.out.2.1.mkt.below s.below) hn.1
    rw [H.out.1.hg] at this
    exact this)
  have d1 : ∀ s : Desc w1, s.val.cell? ⟨w.heap.size, 0, none⟩ = some (.slice A n c) := fun s => s.cell x0
  have d2 : ∀ s : Desc w1, s.val.cell? ⟨w.heap.size, 1, none⟩ = some (.slice U n d) := fun s => s.cell x1
  clear hw1 x0 x1
  go_cut [6, 7] (fun av bv wx => av = .int .i64 n ∧ bv = .int .i64 k ∧ Below w1.heap.size w1 wx)
  case first =>
    refine wp_region_desc (by kernel_rfl) (by kernel_rfl) ?_
    repeat (go_big_quiet_step (first | (go_at_call 32; exact HGO.out _)))
    refine wpQuiet_nil ?_
    rintro _ ⟨sd, rfl⟩
    have hb2 := sd.below
    generalize sd.val = w2 at hb2 ⊢
    go_wp2_with fail
    go_meet
    case rel => exact ⟨rfl, rfl, hb2⟩
  obtain ⟨w2, rfl⟩ : ∃ w2 : World, w2 = wc := ⟨_, rfl⟩
  obtain ⟨rfl, rfl, hb2⟩ := hcut
  have H2 := Lib.hid hb2
  have hs2 := hb2.size
  clear hb2 d1 d2 HGO
  go_upto_region 2 with fail
  go_cut [8] (fun bv wx => ∃ bb PB SB, bv = .pointer (some ⟨bb, 0, none⟩) ∧ SolMem w wx #[.slice A n c, .slice U n d] #[.slice none 0 0, .slice none 0 0] bb PB SB n k 0 (fun _ => 0))
  case first =>
    have hm1 := make_mfracs k (by omega)
    have hm2 := make_mfracss n (by omega)
    go_region
    all_goals
      go_wp2_with fail
      go_meet
      case rel =>
        refine' ⟨_, _, _, rfl, SolMem.start (bal := ?ba) (pri := ?pr) (sb := ?sb) (hb := below3 _ _ _ _) (bel := H.out.2.2.1.trans (H2.out.mono H.out.2.2.1.size)) (mkb := H.out.2.2.2.1.below H2.out H.out.2.2.2.1.lt) (res := H.out.2.2.2.2.1.below H2.out H.out.2.2.2.2.1.lt) (ne := ?ne)⟩
        case ba => first | exact blk0 _ _ _ _ _ | exact blk1 _ _ _ _ _ | exact blk2 _ _ _ _ _
        case pr => first | exact blk0 _ _ _ _ _ | exact blk1 _ _ _ _ _ | exact blk2 _ _ _ _ _
        case sb => first | exact blk0 _ _ _ _ _ | exact blk1 _ _ _ _ _ | exact blk2 _ _ _ _ _
        case ne => omega
  obtain ⟨w3, rfl⟩ : ∃ w3 : World, w3 = wc := ⟨_, rfl⟩
  obtain ⟨bb, PB, SB, rfl, hm3⟩ := hcut
  have H3 := Lib.hid hm3
  clear hm3
  go_wp2_with fail
  go_loopw [25] (fun iv wx => ∃ (i : Nat) (R : Nat → Nat), i ≤ n ∧ iv = .int .i64 i ∧ SolMem w wx #[.slice A n c, .slice U n d] #[.slice none 0 0, .slice none 0 0] bb PB SB n k i R) (fun iv _ => n - (intOf iv).toNat)
  case atStart => exact ⟨0, fun _ => 0, Nat.zero_le _, rfl, H3.out⟩
  case round =>
    obtain ⟨i, R, hi, rfl, hmem⟩ := hrel
    obtain ⟨wo, rfl⟩ : ∃ wo : World, wo = wr := ⟨_, rfl⟩
    have HM := Lib.hid hmem
    clear hmem
    by_cases hin : i < n
    · -- {{
      have hm1 := make_mfracs k (by omega)
      have hsb := HM.out.sb
      have hsl := hsb.lt
      have hbl := HM.out.bal.lt
      obtain ⟨_, y1, _, _⟩ := HM.out.bal.at2
      have y2 := (Blk.cell hsb i).trans (sbC_get hin)
      rw [if_neg (by omega)] at y2
      have y3 := hsb.frozen i
      clear hsb
      go_upto_region 6 with fail
      go_cut [9] (fun av wx => av = .int .i64 i ∧ Kept wo.heap.size [SB] wo wx ∧ Blk wx SB 44 (sbC n k (i + 1) (upd R i wo.heap.size)) ∧ PrB wx wo.heap.size 49 (zr k 0))
      case first =>
        have hA : Blk ((wo.setCell ⟨SB, i, none⟩ (.slice (some ⟨wo.heap.size, 0, none⟩) k k)).alloc (.cells (prA (List.replicate k (0, 0))) 49)) SB 44 (sbC n k (i + 1) (upd R i wo.heap.size)) := by
          have := HM.out.sb.set_ i (.slice (some ⟨wo.heap.size, 0, none⟩) k k)
          rw [sbC_set] at this
          exact this.alloc _
        have hB : PrB ((wo.setCell ⟨SB, i, none⟩ (.slice (some ⟨wo.heap.size, 0, none⟩) k k)).alloc (.cells (prA (List.replicate k (0, 0))) 49)) wo.heap.size 49 (zr k 0) := by
          rw [zr_zero]
          exact Blk.new _ _ _ (by simp [World.setCell])
        have hC : Kept wo.heap.size [SB] wo ((wo.setCell ⟨SB, i, none⟩ (.slice (some ⟨wo.heap.size, 0, none⟩) k k)).alloc (.cells (prA (List.replicate k (0, 0))) 49)) := ((Kept.refl _ _ _).setCell (.inl (by simp)) _).alloc (by simp [World.setCell]) _
        have HA := Lib.hid (And.intro hC (And.intro hA hB))
        clear hA hB hC
        go_region
        all_goals
          go_wp2_with fail
          go_meet
          case rel => exact ⟨rfl, HA.out.1.drew, HA.out.2.1, HA.out.2.2⟩
      obtain ⟨wq, rfl⟩ : ∃ wq : World, wq = wc := ⟨_, rfl⟩
      obtain ⟨rfl, hkq, hSq, hPq⟩ := hcut
      have hqs := hkq.size
      have HQ := Lib.hid (And.intro hkq (And.intro hSq hPq))
      have hgl := hPq.lt
      clear hkq hSq hPq y1 y2 y3 hm1
      go_wp2_with fail
      go_loopw [35] (fun gv wx => ∃ g : Nat, g ≤ k ∧ gv = .int .i64 g ∧ PrB wx wo.heap.size 49 (zr k g) ∧ Kept wq.heap.size [wo.heap.size] wq wx) (fun gv _ => k - (intOf gv).toNat)
      case atStart => exact ⟨0, Nat.zero_le _, rfl, HQ.out.2.2, Kept.refl _ _ _⟩
      case round =>
        obtain ⟨g, hg, rfl, hPx, hkx⟩ := hrel
        obtain ⟨wl, rfl⟩ : ∃ wl : World, wl = wr := ⟨_, rfl⟩
        have HL := Lib.hid (And.intro hPx hkx)
        clear hPx hkx
        by_cases hgk : g < k
        · have hne := HM.out.ne
          have c1 := (HL.out.2.block bb (by omega) (by simp; omega)).trans (HQ.out.1.block bb hbl (by simp; omega))
          have c2 := HL.out.2.block SB (by omega) (by simp; omega)
          have y1 := (World.cell?_of_block (w := wo) (a := ⟨bb, 1, none⟩) c1).trans HM.out.bal.at2.2.1
          have y2 := (World.cell?_of_block (w := wq) (a := ⟨SB, i, none⟩) c2).trans ((Blk.cell HQ.out.2.1 i).trans (sbC_get hin))
          rw [if_pos (by omega), upd_same] at y2
          have d1 : ∀ s : Desc wl, s.val.cell? ⟨bb, 1, none⟩ = some (.slice (some ⟨SB, 0, none⟩) n n) := fun s => s.cell y1
          have d2 : ∀ s : Desc wl, s.val.cell? ⟨SB, i, none⟩ = some (.slice (some ⟨wo.heap.size, 0, none⟩) k k) := fun s => s.cell y2
          have HW8 : Hid (∀ s : Desc wl, Calls Try.prog 17 #[.int .i64 0] s.val fun e w'' => e = .returned (.agg #[.int .i64 0, .int .i64 1]) ∧ ∃ s' : Desc wl, w'' = s'.val) := Lib.hid fun s => Calls.desc_of (by
            have := mwhole_any 0 s.val
            rw [fr_int] at this
            exact this)
          clear c1 c2 y1 y2
          go_wp2_with fail
          refine wp_region_desc_tail 8 (by kernel_rfl) (by kernel_rfl) ?_
          simp only [List.take_succ_cons, List.take_zero, List.drop_succ_cons, List.drop_zero]
          repeat (go_big_quiet_step (first | (go_at_call 17; exact HW8.out _)))
          refine wpQuiet_nil ?_
          rintro _ ⟨sd, rfl⟩
          have hb8 := sd.below
          generalize sd.val = w8 at hb8 ⊢
          clear d1 d2
          have hP8 := HL.out.1.below hb8 HL.out.1.lt
          obtain ⟨⟨pa, pb⟩, hpx⟩ : ∃ x, (zr k g)[g]? = some x := ⟨_, zr_get hgk⟩
          obtain ⟨r1, r2⟩ := hP8.read hpx
          have r3 := hP8.frozen (g * 2)
          have r4 := hP8.frozen (g * 2 + 1)
          have H8 := Lib.hid (And.intro hP8 hb8)
          clear hP8 hb8 hpx
          go_wp2_with fail
          go_roundw
          case rel =>
            have h9 := H8.out.1.set_ g 0 1
            rw [zr_set] at h9
            have hls := HL.out.2.size
            exact ⟨g + 1, by omega, by go_num, h9, ((HL.out.2.trans (Kept.of_below (H8.out.2.mono hls) _)).setCell (.inl (by simp)) _).setCell (.inl (by simp)) _⟩
          case measure => simp [intOf]; omega
        · obtain rfl : g = k := by omega
          go_wp2_with fail
          go_roundw
          case rel =>
            refine ⟨i + 1, upd R i wo.heap.size, by omega, by go_num, HM.out.more (Nat.le_refl _) (HQ.out.1.trans (HL.out.2.mono hqs (fun z hz => by simp at hz; right; omega))) ?_ ?_⟩
            · exact HQ.out.2.1.kept HL.out.2 (by omega) (by simp; omega)
            · rw [← zr_end]; exact HL.out.1
          case measure => simp [intOf]; omega
      -- }}
    · obtain rfl : n = i := by omega
      have hrun := HM.out.run
      have H4 := Lib.hid hrun
      obtain ⟨dm, hdm⟩ : ∃ dm, dm = wo.heap.size := ⟨_, rfl⟩
      have hdl := hrun.donm.lt
      rw [← hdm] at H4
      have HDM := Lib.hid hdm
      clear hrun hdm
      have hmm := @run_makeMap Try.prog
      go_wp2_with fail
      rw [← HDM.out]
      go_loopw [50] (fun gv wx => ∃ (g N : Nat) (s : SolS), g ≤ k ∧ gv = .int .i64 g ∧ N ≤ 6 * g ∧ solTo B V e n k g = some s ∧ SolOk k g s ∧ SolRun w wx #[.slice A n c, .slice U n d] #[.slice none 0 0, .slice none 0 0] bb PB SB dm n k N R s) (fun gv _ => k - (intOf gv).toNat)
      case atStart => exact ⟨0, 0, sol0, Nat.zero_le _, rfl, Nat.zero_le _, rfl, SolOk.zero k, H4.out⟩
      case round =>
        obtain ⟨g, N, s, hg, rfl, hN, hto, hok, hrun⟩ := hrel
        obtain ⟨wl, rfl⟩ : ∃ wl : World, wl = wr := ⟨_, rfl⟩
        have HL := Lib.hid (And.intro hto (And.intro hok hrun))
        clear hto hok hrun
        by_cases hgk : g < k
        · have hlk := HL.out.2.2.donm.look (t := 76) Try.underlying76 (zero_bool wl) (c := true) (i := g) (by omega)
          have hnx : solTo B V e n k (g + 1) = solStep B V e n k g s := by
            simp only [solTo, HL.out.1, Option.bind_some]
          have HNX := Lib.hid hnx
          clear hnx
          cases hdg : s.don (true, g) with
          | true =>
            rw [hdg] at hlk
            have HS : Hid (solStep B V e n k g s = some s) := Lib.hid (by unfold solStep; rw [if_pos hdg])
            clear hdg
            go_wp2_with fail
            go_roundw
            case rel =>
              exact ⟨g + 1, N, s, by omega, by go_num, by omega, HNX.out.trans HS.out, step_ok (useN_bd H.out.1.rows) H.out.1.buds hk.2 hn.2 H.out.1.hg hgk HL.out.2.1 HS.out, HL.out.2.2⟩
            case measure => simp [intOf]; omega
          | false =>
            rw [hdg] at hlk
            have HS : Hid (solStep B V e n k g s = (compB B V e n k g s.don s.pq s.sp).map fun st => ⟨st.don, compPq B st, (compBk B st s.sp).2⟩) := Lib.hid (by unfold solStep; rw [if_neg (by rw [hdg]; decide)])
            have HCW : Hid (Calls Try.prog 44 #[mktV A n c U n d, .int .i64 (e : Int), .int .i64 (g : Int), .pointer (some ⟨bb, 0, none⟩), .map (some dm)] wl (CompPost B V e n k g s.don s.pq s.sp wl dm PB N R)) := Lib.hid (mcomp_walk A n c U d k e g B V bb PB dm N s.don s.pq s.sp R SB w wl HL.out.2.2.spIn (HL.out.2.2.compIn H.out.1 (by omega)) H.out.2.2.2.2.2 hgk)
            obtain ⟨m1, m2, _, _⟩ := HL.out.2.2.mkb.at2
            clear hdg
            go_wp2_with fail
            refine HCW.out.mono ?_
            intro ev w5 hpost
            unfold CompPost at hpost
            obtain ⟨hk5, hpost⟩ := hpost
            cases hcb : compB B V e n k g s.don s.pq s.sp with
            | none =>
              rw [hcb] at hpost
              subst hpost
              have HNO : Hid (solF B V e n k = none) := Lib.hid (by
                unfold solF
                rw [solTo_none (HNX.out.trans (HS.out.trans (by rw [hcb]; rfl))) k (by omega)])
              have HF5 := Lib.hid (HL.out.2.2.fail hk5)
              obtain ⟨z1, z2, z3, z4⟩ := HF5.out.1.at2
              clear hk5 hcb HCW hlk
              have hz := (Blk.set_ (Blk.set_ HF5.out.1 0 (.slice none 0 0)) 1 (.slice none 0 0)).at2
              go_wp2_with fail
              (try simp only [Exit.inBlock, Exit.then])
              exact bodyPost_ret (v := .tuple #[.agg #[.slice none 0 0, .slice none 0 0], .bool false]) (by simp [results, Try.results33, go_sem, hz.1, hz.2.1]) rfl ⟨(HF5.out.2.setCell (by simp) _).setCell (by simp) _, by rw [HNO.out]; exact ⟨_, _, _, _, _, _, rfl⟩⟩
            | some st =>
              rw [hcb] at hpost
              obtain ⟨rfl, hp5, hd5, hr5⟩ := hpost
              have HST : Hid (solStep B V e n k g s = some ⟨st.don, compPq B st, (compBk B st s.sp).2⟩) := Lib.hid (HS.out.trans (by rw [hcb]; rfl))
              have H5 := Lib.hid (HL.out.2.2.comp (s' := ⟨st.don, compPq B st, (compBk B st s.sp).2⟩) hk5 hp5 hd5 hr5)
              clear hk5 hp5 hd5 hr5 hcb
              go_wp2_with fail
              go_roundw
              case rel =>
                exact ⟨g + 1, N + 6, _, by omega, by go_num, by omega, HNX.out.trans HST.out, step_ok (useN_bd H.out.1.rows) H.out.1.buds hk.2 hn.2 H.out.1.hg hgk HL.out.2.1 HST.out, H5.out⟩
              case measure => simp [intOf]; omega
        · obtain rfl : k = g := by omega
          go_wp2_with fail
          go_loopw [66] (fun iv wx => ∃ i : Nat, i ≤ n ∧ iv = .int .i64 i ∧ (∀ j, j < i → s.don (false, j) = true) ∧ wx = wl) (fun iv _ => n - (intOf iv).toNat)
          case atStart => exact ⟨0, Nat.zero_le _, rfl, fun j hj => by omega, rfl⟩
          case round =>
            obtain ⟨i, hi, rfl, hall, rfl⟩ := hrel
            have HA := Lib.hid hall
            clear hall
            by_cases hin : i < n
            · have hlk := HL.out.2.2.donm.look (t := 76) Try.underlying76 (zero_bool wr) (c := false) (i := i) (by omega)
              cases hdi : s.don (false, i) with
              | true =>
                rw [hdi] at hlk
                have HD := Lib.hid hdi
                clear hdi
                go_wp2_with fail
                go_roundw
                case rel =>
                  refine ⟨i + 1, by omega, by go_num, fun j hj => ?_, trivial⟩
                  rcases Nat.lt_or_ge j i with h1 | h1
                  · exact HA.out j h1
                  · rw [show j = i by omega]; exact HD.out
                case measure => simp [intOf]; omega
              | false =>
                rw [hdi] at hlk
                have HNO : Hid (solF B V e n k = none) := Lib.hid (by
                  unfold solF
                  rw [HL.out.1]
                  have : allDon n s = false := by
                    unfold allDon
                    rw [List.all_eq_false]
                    exact ⟨i, List.mem_range.2 hin, by rw [hdi]; decide⟩
                  simp only [this, Bool.false_and]
                  rfl)
                obtain ⟨z1, z2, z3, z4⟩ := HL.out.2.2.res.at2
                clear hdi
                have hz := (Blk.set_ (Blk.set_ HL.out.2.2.res 0 (.slice none 0 0)) 1 (.slice none 0 0)).at2
                go_wp2_with fail
                (try simp only [Exit.inBlock, Exit.then])
                exact bodyPost_ret (v := .tuple #[.agg #[.slice none 0 0, .slice none 0 0], .bool false]) (by simp [results, Try.results33, go_sem, hz.1, hz.2.1]) rfl ⟨(HL.out.2.2.bel.setCell (by simp) _).setCell (by simp) _, by rw [HNO.out]; exact ⟨_, _, _, _, _, _, rfl⟩⟩
            · obtain rfl : n = i := by omega
              have hF : solF B V e n k = if balB B V (solP k s) (solS n k s) then some (solP k s, solS n k s) else none := by
                unfold solF
                rw [HL.out.1]
                have : allDon n s = true := by
                  unfold allDon
                  rw [List.all_eq_true]
                  exact fun j hj => HA.out j (List.mem_range.1 hj)
                simp only [this, Bool.true_and]
              have HF := Lib.hid hF
              have hbi : BalIn wr A n U (some ⟨PB, 0, none⟩) k (some ⟨SB, 0, none⟩) B V (solP k s) (solS n k s) := {
                mkt := H.out.1.mkt.below HL.out.2.2.bel
                hn := hn
                hk := by omega
                hg := H.out.1.hg
                rows := H.out.1.rows
                buds := H.out.1.buds
                hp := by simp [solP]
                pok := solP_ok HL.out.2.1
                hP := HL.out.2.2.frc HL.out.2.1
                hS := by simp [solS]
                srow := by
                  intro r hr
                  obtain ⟨i, _, rfl⟩ := List.mem_map.1 hr
                  simp
                sok := solS_ok HL.out.2.1
                hSp := HL.out.2.2.mat }
              have HBA : Hid (∀ s' : Desc wr, Calls Try.prog 45 #[.agg #[.slice A n c, .slice U n d], .agg #[.slice (some ⟨PB, 0, none⟩) k k, .slice (some ⟨SB, 0, none⟩) n n]] s'.val fun e w'' => e = .returned (.bool (balB B V (solP k s) (solS n k s))) ∧ ∃ s'' : Desc wr, w'' = s''.val) := Lib.hid fun s' => Calls.desc_of (mbalanced_any A n c U d (some ⟨PB, 0, none⟩) k k (some ⟨SB, 0, none⟩) n B V (solP k s) (solS n k s) s'.val (hbi.below s'.below))
              obtain ⟨m1, m2, _, _⟩ := HL.out.2.2.mkb.at2
              obtain ⟨b1, b2, _, _⟩ := HL.out.2.2.bal.at2
              have d1 : ∀ s : Desc wr, s.val.cell? ⟨w.heap.size, 0, none⟩ = some (.slice A n c) := fun s => s.cell m1
              have d2 : ∀ s : Desc wr, s.val.cell? ⟨w.heap.size, 1, none⟩ = some (.slice U n d) := fun s => s.cell m2
              have d3 : ∀ s : Desc wr, s.val.cell? ⟨bb, 0, none⟩ = some (.slice (some ⟨PB, 0, none⟩) k k) := fun s => s.cell b1
              have d4 : ∀ s : Desc wr, s.val.cell? ⟨bb, 1, none⟩ = some (.slice (some ⟨SB, 0, none⟩) n n) := fun s => s.cell b2
              obtain ⟨bl, hbl⟩ : ∃ b, b = balB B V (solP k s) (solS n k s) := ⟨_, rfl⟩
              rw [← hbl] at HBA
              have HBL := Lib.hid hbl
              clear hbl hbi hF m1 m2 b1 b2
              go_wp2_with fail
              refine wp_region_desc_tail 4 (by kernel_rfl) (by kernel_rfl) ?_
              simp only [List.take_succ_cons, List.take_zero, List.drop_succ_cons, List.drop_zero]
              repeat (go_big_quiet_step (first | (go_at_call 45; exact HBA.out _)))
              refine wpQuiet_nil ?_
              rintro _ ⟨sd, rfl⟩
              have hb8 := sd.below
              generalize sd.val = w8 at hb8 ⊢
              clear d1 d2 d3 d4
              have hr8 := HL.out.2.2.below hb8
              obtain ⟨z1, z2, z3, z4⟩ := hr8.res.at2
              have H8 := Lib.hid hr8
              clear hr8 hb8
              have hz := (Blk.set_ (Blk.set_ H8.out.res 0 (.slice (some ⟨PB, 0, none⟩) k k)) 1 (.slice (some ⟨SB, 0, none⟩) n n)).at2
              have HZ := Lib.hid hz
              have HFR := Lib.hid (And.intro (H8.out.frc HL.out.2.1) H8.out.mat)
              clear hz
              go_wp2_with fail
              (try simp only [Exit.inBlock, Exit.then])
              refine bodyPost_ret (v := .tuple #[.agg #[.slice (some ⟨PB, 0, none⟩) k k, .slice (some ⟨SB, 0, none⟩) n n], .bool bl]) (by simp [results, Try.results33, go_sem, HZ.out.1, HZ.out.2.1]) rfl ?_
              refine ⟨(H8.out.bel.setCell (by simp) _).setCell (by simp) _, ?_⟩
              rw [HF.out, ← HBL.out]
              have hne := H8.out.ne
              cases bl with
              | true =>
                simp only [if_true]
                have hq := H8.out.ret (.slice (some ⟨PB, 0, none⟩) k k) (.slice (some ⟨SB, 0, none⟩) n n)
                exact ⟨PB, SB, rfl, hq.bmem HL.out.2.1⟩
              | false =>
                simp only [Bool.false_eq_true, if_false]
                exact ⟨_, _, _, _, _, _, rfl⟩

/- Contract: balance of package market. -/

/-- The first balance that is found, of the first e sets of edges. -/
def balTo (B : List Int) (V : List (List Int)) (n k : Nat) : Nat → Option (List Rat × List (List Rat))
  | 0 => none
  | e + 1 => match balTo B V n k e with
    | some r => some r
    | none => solF B V e n k
def balF (B : List Int) (V : List (List Int)) (n k : Nat) : Option (List Rat × List (List Rat)) := balTo B V n k (2 ^ (n * k))
theorem balTo_some {B : List Int} {V : List (List Int)} {n k e : Nat} {r : List Rat × List (List Rat)} (h : balTo B V n k e = some r) : ∀ z, e ≤ z → balTo B V n k z = some r := by
  intro z hz
  induction z with
  | zero => rw [show e = 0 by omega] at h; exact h
  | succ z ih =>
    rcases Nat.lt_or_ge e (z + 1) with h1 | h1
    · simp only [balTo]; rw [ih (by omega)]
    · rw [show z + 1 = e by omega]; exact h
theorem balTo_ok {B : List Int} {V : List (List Int)} {n k : Nat} (hu : ∀ i g, 0 ≤ useN V i g ∧ useN V i g ≤ 20) (hB : ∀ b ∈ B, 1 ≤ b ∧ b ≤ 20) (hk : k ≤ 3) (hn : n ≤ 3) (hG : goodsN V = k) {r : List Rat × List (List Rat)} : ∀ e, balTo B V n k e = some r → SolR B V n k r
  | 0, h => by cases h
  | e + 1, h => by
    simp only [balTo] at h
    cases h1 : balTo B V n k e with
    | none => rw [h1] at h; exact solF_ok hu hB hk hn hG h
    | some r' => rw [h1] at h; injection h with h; subst h; exact balTo_ok hu hB hk hn hG e h1
/-- What balance leaves. -/
def BalPost (B : List Int) (V : List (List Int)) (n k : Nat) (w : World) (x : Ending) (w' : World) : Prop :=
  Below w.heap.size w w' ∧ match balF B V n k with
    | none => x = .returned (.agg #[.slice none 0 0, .slice none 0 0])
    | some r => ∃ PB SB, x = .returned (balV (some ⟨PB, 0, none⟩) k k (some ⟨SB, 0, none⟩) n n) ∧ BalMem w.heap.size w' PB SB r
theorem pow_le9 {n k : Nat} (hn : 1 ≤ n ∧ n ≤ 3) (hk : 1 ≤ k ∧ k ≤ 3) : 2 ^ (n * k) ≤ 512 := by
  have h1 : n = 1 ∨ n = 2 ∨ n = 3 := by omega
  have h2 : k = 1 ∨ k = 2 ∨ k = 3 := by omega
  rcases h1 with rfl | rfl | rfl <;> rcases h2 with rfl | rfl | rfl <;> decide
set_option maxRecDepth 100000 in
set_option maxHeartbeats 4000000 in
theorem mbalance_any (A : Option Addr) (n c : Nat) (U : Option Addr) (d k : Nat) (B : List Int) (V : List (List Int)) (w : World) (h : MkIn w A n U k B V) :
    Calls Try.prog 16 #[mktV A n c U n d] w (BalPost B V n k w) := by
  obtain ⟨w1, hw1⟩ : ∃ w1, w1 = (w.alloc (.cells #[.slice A n c, .slice U n d] 28)).alloc (.cells #[.slice none 0 0, .slice none 0 0] 47) := ⟨_, rfl⟩
  have hb1 : Below w.heap.size w w1 := by rw [hw1]; exact ((Below.refl _ _).alloc (Nat.le_refl _) _).alloc (by simp) _
  have hM1 : Blk w1 w.heap.size 28 #[.slice A n c, .slice U n d] := by rw [hw1]; exact (Blk.new _ _ _ rfl).alloc _
  have hR1 : Blk w1 (w.heap.size + 1) 47 #[.slice none 0 0, .slice none 0 0] := by rw [hw1]; exact Blk.new _ _ _ (by simp)
  have hsz1 : w1.heap.size = w.heap.size + 2 := by rw [hw1]; simp
  obtain ⟨x0, x1, _, _⟩ := hM1.at2
  have h1 := h.below hb1
  have hn := h.hn
  have hk := h.hk
  have H := Lib.hid (And.intro h (And.intro h1 (And.intro hb1 (And.intro hM1 hR1))))
  clear h h1 hb1 hM1 hR1
  unfold mktV
  go_enter Try.func16, Try.ntmps16
  go_upto_region 1 with fail
  rw [← hw1]
  have HGO : Hid (∀ s : Desc w1, Calls Try.prog 32 #[.agg #[.slice A n c, .slice U n d]] s.val fun e w'' => e = .returned (.int .i64 (k : Int)) ∧ ∃ s' : Desc w1, w'' = s'.val) := Lib.hid fun s => Calls.desc_of (by
    have := mgoods_any A n c U n d B V s.val (H.out.2.1.mkt.below s.below) hn.1
    rw [H.out.1.hg] at this
    exact this)
  have d1 : ∀ s : Desc w1, s.val.cell? ⟨w.heap.size, 0, none⟩ = some (.slice A n c) := fun s => s.cell x0
  have d2 : ∀ s : Desc w1, s.val.cell? ⟨w.heap.size, 1, none⟩ = some (.slice U n d) := fun s => s.cell x1
  clear hw1 x0 x1
  go_cut [12, 13] (fun av bv wx => av = .int .i64 ((2 ^ (n * k) : Nat) : Int) ∧ bv = .int .i64 0 ∧ Below w1.heap.size w1 wx)
  case first =>
    have h3 : n = 1 ∨ n = 2 ∨ n = 3 := by omega
    have h4 : k = 1 ∨ k = 2 ∨ k = 3 := by omega
    clear H hsz1 hn hk
    rcases h3 with rfl | rfl | rfl <;> rcases h4 with rfl | rfl | rfl
    all_goals
      refine wp_region_desc (by kernel_rfl) (by kernel_rfl) ?_
      repeat (go_big_quiet_step (first | (go_at_call 32; exact HGO.out _)))
      refine wpQuiet_nil ?_
      rintro _ ⟨sd, rfl⟩
      have hb2 := sd.below
      generalize sd.val = w2 at hb2 ⊢
      clear d1 d2
      go_wp2_with fail
      go_meet
      case rel => exact ⟨rfl, rfl, hb2⟩
  obtain ⟨w2, rfl⟩ : ∃ w2 : World, w2 = wc := ⟨_, rfl⟩
  obtain ⟨rfl, rfl, hb2⟩ := hcut
  have hp9 := pow_le9 hn hk
  obtain ⟨M, hM⟩ : ∃ M, M = 2 ^ (n * k) := ⟨_, rfl⟩
  rw [← hM] at hp9 ⊢
  have HMM := Lib.hid hM
  have H2 := Lib.hid (And.intro (H.out.2.2.1.trans (hb2.mono H.out.2.2.1.size)) (And.intro (H.out.2.2.2.1.below hb2 H.out.2.2.2.1.lt) (H.out.2.2.2.2.below hb2 H.out.2.2.2.2.lt)))
  have hs2 := hb2.size
  clear hb2 d1 d2 HGO hM
  go_wp2_with fail
  go_loopw [13] (fun ev wx => ∃ e : Nat, e ≤ M ∧ ev = .int .i64 e ∧ balTo B V n k e = none ∧ Blk wx w.heap.size 28 #[.slice A n c, .slice U n d] ∧ Blk wx (w.heap.size + 1) 47 #[.slice none 0 0, .slice none 0 0] ∧ Below w.heap.size w wx) (fun ev _ => M - (intOf ev).toNat)
  case atStart => exact ⟨0, Nat.zero_le _, rfl, rfl, H2.out.2.1, H2.out.2.2, H2.out.1⟩
  case round =>
    obtain ⟨e, he, rfl, hbt, hmk, hres, hbl⟩ := hrel
    obtain ⟨wo, rfl⟩ : ∃ wo : World, wo = wr := ⟨_, rfl⟩
    have HR := Lib.hid (And.intro hbt (And.intro hmk (And.intro hres hbl)))
    obtain ⟨m1, m2, _, _⟩ := hmk.at2
    obtain ⟨z1, z2, z3, z4⟩ := hres.at2
    have hwl := hres.lt
    clear hbt hmk hres hbl
    by_cases hem : e < M
    · have HSO : Hid (Calls Try.prog 33 #[mktV A n c U n d, .int .i64 (e : Int)] wo (SolPost B V e n k wo)) := Lib.hid (msolve_any A n c U d k e B V wo (H.out.1.below (HR.out.2.2.2)) (by omega))
      go_wp2_with fail
      refine HSO.out.mono ?_
      intro ev w5 hpost
      unfold SolPost at hpost
      obtain ⟨hb5, hpost⟩ := hpost
      have hbt2 : balTo B V n k (e + 1) = solF B V e n k := by simp only [balTo, HR.out.1]
      cases hsf : solF B V e n k with
      | none =>
        rw [hsf] at hpost hbt2
        obtain ⟨A1, a1, b1, A2, a2, b2, rfl⟩ := hpost
        have HN := Lib.hid (And.intro hb5 hbt2)
        clear hb5 hbt2 hsf z1 z2 z3 z4 m1 m2 HSO
        go_wp2_with fail
        go_roundw
        case rel =>
          have hb6 : Below wo.heap.size wo (w5.alloc (.cells #[.slice A1 a1 b1, .slice A2 a2 b2] 47)) := HN.out.1.alloc HN.out.1.size _
          exact ⟨e + 1, by omega, by go_num, HN.out.2, HR.out.2.1.below hb6 HR.out.2.1.lt, HR.out.2.2.1.below hb6 hwl, HR.out.2.2.2.trans (hb6.mono HR.out.2.2.2.size)⟩
        case measure => simp [intOf]; omega
      | some r =>
        rw [hsf] at hpost hbt2
        obtain ⟨PB, SB, rfl, hm5⟩ := hpost
        have hf : balF B V n k = some r := by
          unfold balF
          rw [← HMM.out]
          exact balTo_some hbt2 M (by omega)
        have hr5 := (HR.out.2.2.1.below hb5 hwl).alloc (.cells #[.slice (some ⟨PB, 0, none⟩) k k, .slice (some ⟨SB, 0, none⟩) n n] 47)
        obtain ⟨z5, z6, z7, z8⟩ := hr5.at2
        have hz := (Blk.set_ (Blk.set_ hr5 0 (.slice (some ⟨PB, 0, none⟩) k k)) 1 (.slice (some ⟨SB, 0, none⟩) n n)).at2
        have HZ := Lib.hid hz
        have hbw : Below w.heap.size w (w5.alloc (.cells #[.slice (some ⟨PB, 0, none⟩) k k, .slice (some ⟨SB, 0, none⟩) n n] 47)) := (HR.out.2.2.2.trans (hb5.mono HR.out.2.2.2.size)).alloc (by have := HR.out.2.2.2.size; have := hb5.size; omega) _
        have HN := Lib.hid (And.intro hf (And.intro hm5 (And.intro hbw hb5.size)))
        clear hb5 hbt2 hsf z1 z2 z3 z4 m1 m2 HSO hf hm5 hr5 hz hbw
        simp only [balV]
        go_wp2_with fail
        refine bodyPost_ret (v := .agg #[.slice (some ⟨PB, 0, none⟩) k k, .slice (some ⟨SB, 0, none⟩) n n]) (by simp [results, Try.results16, go_sem, HZ.out.1, HZ.out.2.1]) rfl ⟨(HN.out.2.2.1.setCell (by simp) _).setCell (by simp) _, ?_⟩
        rw [HN.out.1]
        refine ⟨PB, SB, rfl, HN.out.2.1.keep (by have := HR.out.2.2.2.size; omega) (by simp [World.setCell]) (fun g h1 h2 => ?_)⟩
        exact (Below.heap_setCell _ ⟨w.heap.size + 1, 1, none⟩ _ g (by simp; omega)).trans ((Below.heap_setCell _ ⟨w.heap.size + 1, 0, none⟩ _ g (by simp; omega)).trans (Below.heap_alloc w5 _ g h2))
    · obtain rfl : M = e := by omega
      have hz := (Blk.set_ (Blk.set_ HR.out.2.2.1 0 (.slice none 0 0)) 1 (.slice none 0 0)).at2
      have HZ := Lib.hid hz
      clear hz
      go_wp2_with fail
      refine bodyPost_ret (v := .agg #[.slice none 0 0, .slice none 0 0]) (by simp [results, Try.results16, go_sem, HZ.out.1, HZ.out.2.1]) rfl ⟨(HR.out.2.2.2.setCell (by simp) _).setCell (by simp) _, ?_⟩
      have hf : balF B V n k = none := by
        unfold balF
        rw [← HMM.out]
        exact HR.out.1
      rw [hf]

/- Contracts: Prices and Spend of package market. -/

/-- The balance of a market, if it is valid. -/
def prF (B : List Int) (V : List (List Int)) : Option (List Rat × List (List Rat)) := if validM B V then balF B V B.length (goodsN V) else none
/-- A valid market has a balance that the program finds. -/
def Found (B : List Int) (V : List (List Int)) : Prop := validM B V = true → ∃ r, balF B V B.length (goodsN V) = some r
theorem validM_use {B : List Int} {V : List (List Int)} (h : validM B V = true) : ∀ i g, 0 ≤ useN V i g ∧ useN V i g ≤ 20 := useN_bd (validM_iff.1 h).2.2.1
theorem prF_ok {B : List Int} {V : List (List Int)} {r : List Rat × List (List Rat)} (h : prF B V = some r) : validM B V = true ∧ SolR B V B.length (goodsN V) r := by
  unfold prF at h
  by_cases hv : validM B V = true
  · rw [if_pos hv] at h
    have h2 := validM_iff.1 hv
    exact ⟨hv, balTo_ok (validM_use hv) h2.1.2.2.1 h2.2.1.2 h2.1.2.1 rfl _ h⟩
  · rw [if_neg hv] at h; cases h
theorem mkIn_of {w : World} {A : Option Addr} {n : Nat} {U : Option Addr} {m : Nat} {B : List Int} {V : List (List Int)} (h : MktAt w A n U m B V) (hv : validM B V = true) : m = n ∧ MkIn w A n U (goodsN V) B V := by
  obtain ⟨⟨a1, a2, a3, a4⟩, b1, b2, b3⟩ := validM_iff.1 hv
  have e1 := h.hB
  have e2 := h.hV
  have e : m = n := by omega
  subst e
  exact ⟨rfl, h, by omega, b1, rfl, b2, a3⟩
theorem field_b0 (a b : Value) (w : World) : (Instr.field 47 (.agg #[a, b]) 0).run Try.prog w = .ok a w := by kernel_rfl
theorem field_b1 (a b : Value) (w : World) : (Instr.field 47 (.agg #[a, b]) 1).run Try.prog w = .ok b w := by kernel_rfl
def PricesPost (B : List Int) (V : List (List Int)) (w : World) (x : Ending) (w' : World) : Prop :=
  Below w.heap.size w w' ∧ match prF B V with
    | none => x = .returned (.tuple #[.slice none 0 0, .int .i64 2])
    | some r => ∃ A' c', x = .returned (.tuple #[.slice A' r.1.length c', .int .i64 0]) ∧ w'.ownsRow w.heap.size 37 2 (.slice A' r.1.length c') r.1.length (fcells r.1)
set_option maxRecDepth 100000 in
set_option maxHeartbeats 1600000 in
theorem mprices_any (A : Option Addr) (n c : Nat) (U : Option Addr) (m d : Nat) (B : List Int) (V : List (List Int)) (w : World) (h : MktAt w A n U m B V) (hn : n ≤ 1000) (hm : m ≤ 1000) (hr : ∀ r ∈ V, r.length ≤ 1000) (hex : Found B V) :
    Calls Try.prog 13 #[mktV A n c U m d] w (PricesPost B V w) := by
  have hb1 : Below w.heap.size w (w.alloc (.cells #[.slice A n c, .slice U m d] 28)) := (Below.refl _ _).alloc (Nat.le_refl _) _
  have hM1 : Blk (w.alloc (.cells #[.slice A n c, .slice U m d] 28)) w.heap.size 28 #[.slice A n c, .slice U m d] := Blk.new _ _ _ rfl
  have HV := Lib.hid (mvalid_any A n c U m d B V _ (h.below hb1) hn hm hr)
  have H := Lib.hid (And.intro h (And.intro hex (And.intro hb1 hM1)))
  clear h hex hb1 hM1
  unfold mktV
  go_enter Try.func13, Try.ntmps13
  go_wp2_with fail
  refine HV.out.mono ?_
  rintro e w2 ⟨rfl, hb2⟩
  have hM2 := H.out.2.2.2.below hb2 (by simp)
  have hbw := H.out.2.2.1.trans (hb2.mono H.out.2.2.1.size)
  obtain ⟨m1, m2, _, _⟩ := hM2.at2
  have H2 := Lib.hid (And.intro hM2 hbw)
  clear hM2 hbw hb2 HV
  cases hv : validM B V with
  | false =>
    have HP : Hid (prF B V = none) := Lib.hid (by unfold prF; rw [if_neg (by rw [hv]; decide)])
    clear hv
    go_wp2_with fail
    go_ret2
    exact ⟨H2.out.2, by rw [HP.out]; rfl⟩
  | true =>
    obtain ⟨rfl, hmk⟩ := mkIn_of H.out.1 hv
    obtain ⟨r, hbf⟩ := H.out.2.1 hv
    have HP : Hid (prF B V = some r) := Lib.hid (by unfold prF; rw [if_pos hv]; exact hbf)
    have hok := (prF_ok HP.out).2
    have HB : Hid (Calls Try.prog 16 #[mktV A m c U m d] w2 (BalPost B V m (goodsN V) w2)) := Lib.hid (mbalance_any A m c U d (goodsN V) B V w2 (hmk.below H2.out.2))
    have hBm := H.out.1.hB
    rw [hBm] at hbf
    have HBF := Lib.hid (And.intro hbf hok)
    clear hv hbf hok hmk
    go_wp2_with fail
    refine HB.out.mono ?_
    intro ev w5 hpost
    unfold BalPost at hpost
    rw [HBF.out.1] at hpost
    obtain ⟨hb5, PB, SB, rfl, hm5⟩ := hpost
    have hfd := field_b0 (.slice (some ⟨PB, 0, none⟩) (goodsN V) (goodsN V)) (.slice (some ⟨SB, 0, none⟩) m m)
    have HFR : Hid (Calls Try.prog 21 #[.slice (some ⟨PB, 0, none⟩) (goodsN V) (goodsN V)] w5 fun e w' => ∃ A' c', e = .returned (.slice A' (goodsN V) c') ∧ w'.ownsRow w5.heap.size 37 2 (.slice A' (goodsN V) c') (goodsN V) (pcells (r.1.map pr)) ∧ Below w5.heap.size w5 w') := Lib.hid (mfracs_any (some ⟨PB, 0, none⟩) (goodsN V) (goodsN V) (r.1.map pr) w5 (by rw [List.length_map, HBF.out.2.lp]) (by have := (validM_iff.1 (prF_ok HP.out).1).2.1.2; omega) hm5.get.1)
    have H5 := Lib.hid (And.intro hb5 hm5)
    clear hb5 hm5 m1 m2 HB
    unfold balV
    go_wp2_with fail
    refine HFR.out.mono ?_
    rintro e w6 ⟨A', c', rfl, hown, hb6⟩
    have H6 := Lib.hid (And.intro hown hb6)
    clear hown hb6 HFR hfd
    go_wp2_with fail
    go_ret2
    have hs5 := H5.out.1.size
    have hbb := H2.out.2.trans (H5.out.1.mono H2.out.2.size)
    refine ⟨hbb.trans (H6.out.2.mono hbb.size), ?_⟩
    rw [HP.out]
    refine ⟨A', c', by rw [HBF.out.2.lp]; rfl, ?_⟩
    rw [HBF.out.2.lp, ← pcells_fr]
    exact own_mono H6.out.1 hbb.size

/- The program finds a balance of every valid market: plain Lean. -/

section
variable {B : List Int} {V V' : List (List Int)} {e n k first M : Nat} {don : Nd → Bool} {pq0 p : Nat → Rat} {s : Nat → Nat → Rat} {st : CSt}
/-- The same search, but for the prices. -/
structure Same (st st' : CSt) : Prop where
  ord : st.ord = st'.ord
  par : st.par = st'.par
  don : st.don = st'.don
theorem same_visit (hG : goodsN V = k) (hG' : goodsN V' = k) (hu : ∀ i g, i < n → g < k → e.testBit (i * k + g) = true → useN V i g ≠ 0) {st st' a' : CSt} {j : Nat} {x : Nd} {y : Nat} (h : Same st st') (hv : visit V' e n j st' x y = some a') : ∃ a, visit V e n j st x y = some a ∧ Same a a' := by
  have hsk : skipB V e n j st x y = skipB V' e n j st' x y := by unfold skipB; rw [hG, hG', h.par]
  unfold visit at hv ⊢
  rw [hsk]
  by_cases hs : skipB V' e n j st' x y = true
  · rw [if_pos hs] at hv ⊢
    injection hv with hv
    subst hv
    exact ⟨st, rfl, h⟩
  · rw [if_neg hs] at hv ⊢
    by_cases hc : (st'.don (nextOf x y) || decide (useN V' (buyerOf x y) (goodOf x y) = 0)) = true
    · rw [if_pos hc] at hv; cases hv
    · rw [if_neg hc] at hv
      injection hv with hv
      subst hv
      simp only [skipB, Bool.or_eq_true, decide_eq_true_eq, not_or, Bool.not_eq_true', Bool.not_eq_false] at hs
      rw [hG'] at hs
      simp only [Bool.or_eq_true, decide_eq_true_eq, not_or, Bool.not_eq_true] at hc
      obtain ⟨s1, s2, s3, _⟩ := hs
      have h0 := hu _ _ (by omega) (by omega) s3
      rw [if_neg (by rw [h.don, hc.1]; simpa using h0)]
      refine ⟨_, rfl, ?_, ?_, ?_⟩
      · show st.ord ++ _ = st'.ord ++ _; rw [h.ord]
      · show upd st.par _ _ = upd st'.par _ _; rw [h.par]
      · show upd st.don _ _ = upd st'.don _ _; rw [h.don]
theorem same_visitTo (hG : goodsN V = k) (hG' : goodsN V' = k) (hu : ∀ i g, i < n → g < k → e.testBit (i * k + g) = true → useN V i g ≠ 0) {st st' : CSt} {j : Nat} {x : Nd} (h : Same st st') : ∀ (y : Nat) (a' : CSt), visitTo V' e n j st' x y = some a' → ∃ a, visitTo V e n j st x y = some a ∧ Same a a'
  | 0, a', hv => by injection hv with hv; subst hv; exact ⟨st, rfl, h⟩
  | y + 1, a', hv => by
    simp only [visitTo] at hv ⊢
    cases h1 : visitTo V' e n j st' x y with
    | none => rw [h1] at hv; cases hv
    | some s' =>
      rw [h1] at hv
      obtain ⟨s, h2, h3⟩ := same_visitTo hG hG' hu h y s' h1
      rw [h2]
      exact same_visit hG hG' hu h3 hv
theorem same_srch (hG : goodsN V = k) (hG' : goodsN V' = k) (hu : ∀ i g, i < n → g < k → e.testBit (i * k + g) = true → useN V i g ≠ 0) {st st' : CSt} (h : Same st st') : ∀ (j : Nat) (a' : CSt), srchTo V' e n M st' j = some a' → ∃ a, srchTo V e n M st j = some a ∧ Same a a'
  | 0, a', hv => by injection hv with hv; subst hv; exact ⟨st, rfl, h⟩
  | j + 1, a', hv => by
    simp only [srchTo] at hv ⊢
    cases h1 : srchTo V' e n M st' j with
    | none => rw [h1] at hv; cases hv
    | some s' =>
      rw [h1] at hv
      obtain ⟨s, h2, h3⟩ := same_srch hG hG' hu h j s' h1
      rw [h2]
      simp only [Option.bind_some] at hv ⊢
      rw [h3.ord]
      cases h4 : s'.ord[j]? with
      | none =>
        rw [h4] at hv
        injection hv with hv
        subst hv
        exact ⟨s, rfl, h3⟩
      | some x =>
        rw [h4] at hv
        exact same_visitTo hG hG' hu h3 M a' hv
theorem goodsN_ones (hn : 1 ≤ n) : goodsN (onesV n k) = k := by
  unfold goodsN rowV onesV
  rw [List.getD_eq_getElem?_getD, List.getElem?_replicate, if_pos (by omega)]
  simp
/-- The sums over a search's nodes. -/
theorem tot_sum (pq : Nat → Rat) : ∀ l : List Nd, l.Nodup → (∀ g, (true, g) ∈ l → g < k) → totOf pq l = sumQ (fun g => one ((true, g) ∈ l) * pq g) k
  | [], _, _ => by rw [sumQ_zero fun g _ => by rw [one_f (by simp)]; grind]; rfl
  | (c, i) :: l, hn, hr => by
    have hn2 := (List.nodup_cons.1 hn)
    have ih := tot_sum pq l hn2.2 fun g hg => hr g (List.mem_cons_of_mem _ hg)
    simp only [totOf]
    rw [ih]
    cases c
    · simp only [Bool.false_eq_true, if_false]
      rw [Rat.zero_add]
      refine sumQ_congr fun g _ => ?_
      rw [one_iff (P := (true, g) ∈ l) (Q := (true, g) ∈ (false, i) :: l) (by simp)]
    · simp only [if_true]
      have hi := hr i (List.mem_cons_self ..)
      have hone := sumQ_one (f := fun g => one ((true, g) ∈ (true, i) :: l) * pq g - one ((true, g) ∈ l) * pq g) hi (fun g _ hne => by
        rw [one_iff (P := (true, g) ∈ (true, i) :: l) (Q := (true, g) ∈ l) (by simp [hne])]; grind)
      rw [sq_sub, one_t (P := (true, i) ∈ (true, i) :: l) (List.mem_cons_self ..), one_f (P := (true, i) ∈ l) hn2.1] at hone
      grind
theorem bud_sum (B : List Int) : ∀ l : List Nd, l.Nodup → (∀ i, (false, i) ∈ l → i < n) → ((budOf B l : Int) : Rat) = sumQ (fun i => one ((false, i) ∈ l) * budQ B i) n
  | [], _, _ => by rw [sumQ_zero fun g _ => by rw [one_f (by simp)]; grind]; rfl
  | (c, i) :: l, hn, hr => by
    have hn2 := (List.nodup_cons.1 hn)
    have ih := bud_sum B l hn2.2 fun g hg => hr g (List.mem_cons_of_mem _ hg)
    simp only [budOf]
    rw [Rat.intCast_add, ih]
    cases c
    · simp only [Bool.false_eq_true, if_false]
      have hi := hr i (List.mem_cons_self ..)
      have hone := sumQ_one (f := fun g => one ((false, g) ∈ (false, i) :: l) * budQ B g - one ((false, g) ∈ l) * budQ B g) hi (fun g _ hne => by
        rw [one_iff (P := (false, g) ∈ (false, i) :: l) (Q := (false, g) ∈ l) (by simp [hne])]; grind)
      rw [sq_sub, one_t (P := (false, i) ∈ (false, i) :: l) (List.mem_cons_self ..), one_f (P := (false, i) ∈ l) hn2.1] at hone
      have : ((B.getD i 0 : Int) : Rat) = budQ B i := rfl
      grind
    · simp only [if_true]
      have e0 : ((0 : Int) : Rat) = 0 := rfl
      rw [e0, Rat.zero_add]
      refine sumQ_congr fun g _ => ?_
      rw [one_iff (P := (false, g) ∈ l) (Q := (false, g) ∈ (true, i) :: l) (by simp)]
/-- An edge has both its ends in the search, or none. -/
theorem ord_closed (hG : goodsN V = k) (hT : TEnd V e n k first don pq0 p st) (hm : MaskOf n k s e) {i h : Nat} (hi : i < n) (hh : h < k) (hs : s i h ≠ 0) : (false, i) ∈ st.ord ↔ (true, h) ∈ st.ord := by
  constructor
  · intro hx
    obtain ⟨j, hj⟩ := List.getElem?_of_mem hx
    rcases nbr hG hT hm hj (z := h) hh (by exact hs) with ⟨h1, h2⟩ | ⟨i2, _, h2, _⟩
    · obtain ⟨i2, z, _, h4, _⟩ := par_of hT hj h1
      rw [← h2] at h4
      exact List.mem_of_getElem? h4
    · exact List.mem_of_getElem? h2
  · intro hx
    obtain ⟨j, hj⟩ := List.getElem?_of_mem hx
    rcases nbr hG hT hm hj (z := i) hi (by exact hs) with ⟨h1, h2⟩ | ⟨i2, _, h2, _⟩
    · obtain ⟨i2, z, _, h4, _⟩ := par_of hT hj h1
      rw [← h2] at h4
      exact List.mem_of_getElem? h4
    · exact List.mem_of_getElem? h2
/-- What solve knows when it has gone through some goods. -/
structure SolI (B : List Int) (n k : Nat) (p : Nat → Rat) (s : Nat → Nat → Rat) (st : SolS) : Prop where
  cl : ∀ i h, i < n → h < k → s i h ≠ 0 → (st.don (false, i) = true ↔ st.don (true, h) = true)
  pq : ∀ h, h < k → st.don (true, h) = true → st.pq h = p h
  sp1 : ∀ i, i < n → st.don (false, i) = true → ∀ h, h < k → st.sp i h = s i h
  sp0 : ∀ i, i < n → st.don (false, i) = false → ∀ h, h < k → st.sp i h = 0
theorem SolI.zero : SolI B n k p s sol0 where
  cl := fun _ _ _ _ _ => Iff.rfl
  pq := fun _ _ h => by cases h
  sp1 := fun _ _ h => by cases h
  sp0 := fun _ _ _ _ _ => rfl
theorem comp_found (hG : goodsN V = k) (hub : ∀ i g, 0 ≤ useN V i g ∧ useN V i g ≤ 20) (hmk : MkOk n k (budQ B) (useQ V)) (hE : Equi n k (budQ B) (useQ V) p s) (hm : MaskOf n k s e) {ss : SolS} (hI : SolI B n k p s ss) (hn3 : n ≤ 3) (hk3 : k ≤ 3) (hf : first < k) (hd : ss.don (true, first) = false)
    (hF : compF V e n k first ss.don ss.pq = some st) : compB B V e n k first ss.don ss.pq ss.sp = some st ∧ SolI B n k p s ⟨st.don, compPq B st, (compBk B st ss.sp).2⟩ := by
  have hu : ∀ i g, i < n → g < k → e.testBit (i * k + g) = true → 0 < useN V i g := fun i g hi hg hb => by
    have := hE.use hmk.us hi hg ((hm i g hi hg).1 hb)
    unfold useQ at this
    exact_mod_cast this
  have hpr : ∀ i g h, i < n → g < k → h < k → e.testBit (i * k + g) = true → e.testBit (i * k + h) = true → useQ V i h * p g = useQ V i g * p h := fun i g h hi hg hh b1 b2 => by
    have w1 := hE.want i g hi hg ((hm i g hi hg).1 b1) h hh
    have w2 := hE.want i h hi hh ((hm i h hi hh).1 b2) g hg
    grind
  have hp0 : p first ≠ 0 := by have := hE.pos first hf; grind
  have hall : ∀ x, TAll V e n k first (max n k) ss.don ss.pq p st 6 x 0 := TAll.srch hub hG (fun g hg => hE.pos g hg) hu hpr { s := SInv.start ss.don ss.pq (by omega), t := TInv.start hd hp0, old := fun i z hi => by omega, cur := fun y hy => by omega } 6 st hF
  have hA := hall (true, 0)
  have hl6 : st.ord.length ≤ 6 := by
    have := len_le hA.s.inv.nd hA.s.inv.rng
    omega
  have hseen : ∀ (i : Nat) (z : Nd), st.ord[i]? = some z → ∀ y, y < dimN n k z → Seen e n k first st i z y := fun i z hz y hy => by
    have hi := (List.getElem?_eq_some_iff.1 hz).1
    refine hA.old i z (by omega) hz y ?_
    unfold dimN at hy
    split at hy <;> omega
  have hT : TEnd V e n k first ss.don ss.pq p st := ⟨hA.s, hA.t, hseen⟩
  have hnd := hT.s.inv.nd
  have hrg := hT.s.inv.rng
  rw [hG] at hrg
  have hroot := List.mem_of_getElem? hT.s.inv.hd
  have hlp : 0 < st.ord.length := (List.getElem?_eq_some_iff.1 hT.s.inv.hd).1
  obtain ⟨X, hX⟩ : ∃ X, X = sumQ (fun h => one ((true, h) ∈ st.ord) * p h) k := ⟨_, rfl⟩
  have hX0 : 0 < X := by
    rw [hX]
    exact sq_pos (fun h hh => Rat.mul_nonneg (one_nn _) (Rat.le_of_lt (hE.pos h hh))) hf (by rw [one_t hroot]; have := hE.pos first hf; grind)
  have hbud : ((budOf B st.ord : Int) : Rat) = X := by
    rw [bud_sum (n := n) B st.ord hnd (fun i hi => hrg _ hi), hX]
    have e1 : sumQ (fun i => one ((false, i) ∈ st.ord) * budQ B i) n = sumQ (fun i => sumQ (fun h => one ((true, h) ∈ st.ord) * s i h) k) n := by
      refine sumQ_congr fun i hi => ?_
      rw [← hE.row i hi, ← sumQ_mul]
      refine sumQ_congr fun h hh => ?_
      by_cases h0 : s i h = 0
      · rw [h0]; grind
      · rw [one_iff (ord_closed hG hT hm hi hh h0)]
    rw [e1, sq_swap (fun i h => one ((true, h) ∈ st.ord) * s i h)]
    exact sumQ_congr fun h hh => by rw [sumQ_mul, hE.col h hh]
  have htot : totOf st.pq st.ord = X / p first := by
    rw [tot_sum (k := k) st.pq st.ord hnd (fun g hg => hrg _ hg), hX, Rat.div_def, ← sq_mulr]
    refine sumQ_congr fun h hh => ?_
    by_cases hm2 : (true, h) ∈ st.ord
    · rw [hT.t.pq h hm2, Rat.div_def]; grind
    · rw [one_f hm2]; grind
  have hfac : facOf B st = p first := by
    unfold facOf
    rw [hbud, htot]
    have h1 : X / p first ≠ 0 := by have := div_pos' hX0 (hE.pos first hf); grind
    have h2 : p first * (X / p first) = X := by rw [Rat.mul_comm]; exact div_mul' hp0
    generalize X / p first = y at *
    rw [← h2]
    grind
  have hb0 : budOf B st.ord ≠ 0 := by
    intro h0
    rw [h0] at hbud
    have : ((0 : Int) : Rat) = 0 := rfl
    grind
  have hpq : ∀ h, (true, h) ∈ st.ord → compPq B st h = p h := fun h hm2 => by
    unfold compPq scaTo
    rw [List.take_length, if_pos hm2, hT.t.pq h hm2, hfac]
    exact div_mul' hp0
  have hlf : ∀ y ∈ st.ord, lf0 B (compPq B st) y = totN (budQ B) p y := fun y hy => by
    obtain ⟨c, i⟩ := y
    cases c
    · rfl
    · exact hpq i hy
  obtain ⟨k1, k2, k3⟩ := bk_inv hG hT hm hE (sp := ss.sp) hlf (st.ord.length - 1) (by omega)
  have hz : (compBk B st ss.sp).1 (true, first) = 0 := by
    unfold compBk
    rw [k1 _ hroot]
    exact lfI_root hG hT hm
  refine ⟨by rw [compB_fin ss.sp hF hb0, decide_eq_true hz]; rfl, ?_⟩
  have hdn := hT.s.dn
  have hdrop : st.ord.length - (st.ord.length - 1) = 1 := by omega
  rw [hdrop] at k2
  constructor
  · intro i h hi hh h0
    show st.don (false, i) = true ↔ st.don (true, h) = true
    rw [hdn, hdn, hI.cl i h hi hh h0, ord_closed hG hT hm hi hh h0]
  · intro h hh hdh
    show compPq B st h = p h
    by_cases hm2 : (true, h) ∈ st.ord
    · exact hpq h hm2
    · have h1 : ss.don (true, h) = true := by
        rcases (hdn _).1 hdh with h1 | h1
        · exact h1
        · exact absurd h1 hm2
      unfold compPq scaTo
      rw [List.take_length, if_neg hm2, hT.s.pr h hm2]
      exact hI.pq h hh h1
  · intro i hi hdi h hh
    show (compBk B st ss.sp).2 i h = s i h
    by_cases hm2 : (false, i) ∈ st.ord
    · by_cases h0 : s i h = 0
      · rcases k3 i h with h1 | ⟨_, h1⟩
        · unfold compBk
          rw [h1, h0]
          exact hI.sp0 i hi (hT.t.new _ hm2) h hh
        · exact h1
      · obtain ⟨j, hj⟩ := List.getElem?_of_mem hm2
        rcases nbr hG hT hm hj (z := h) hh (by exact h0) with ⟨h1, h2⟩ | ⟨i2, h1, h2, h3⟩
        · have h4 := k2 (false, i) ((mem_drop hnd hj).2 h1)
          rw [← h2] at h4
          exact h4
        · have h4 := k2 (true, h) ((mem_drop hnd h2).2 (by omega))
          have h5 : st.par (true, h) = (false, i) := h3
          rw [h5] at h4
          exact h4
    · rcases k3 i h with h1 | ⟨h1, _⟩
      · unfold compBk
        rw [h1]
        refine hI.sp1 i hi ?_ h hh
        rcases (hdn _).1 hdi with h1 | h1
        · exact h1
        · exact absurd h1 hm2
      · exact absurd h1 hm2
  · intro i hi hdi h hh
    show (compBk B st ss.sp).2 i h = 0
    have hm2 : (false, i) ∉ st.ord := fun hm2 => by
      have h1 := (hdn (false, i)).2 (.inr hm2)
      have hdi' : st.don (false, i) = false := hdi
      rw [hdi'] at h1
      cases h1
    have hdi2 : ss.don (false, i) = false := by
      cases h1 : ss.don (false, i) with
      | false => rfl
      | true =>
        have h2 := (hdn (false, i)).2 (.inl h1)
        have hdi' : st.don (false, i) = false := hdi
        rw [hdi'] at h2
        cases h2
    rcases k3 i h with h1 | ⟨h1, _⟩
    · unfold compBk
      rw [h1]
      exact hI.sp0 i hi hdi2 h hh
    · exact absurd h1 hm2
theorem solve_found (hn : 1 ≤ n ∧ n ≤ 3) (hk : k ≤ 3) (hG : goodsN V = k) (hub : ∀ i g, 0 ≤ useN V i g ∧ useN V i g ≤ 20) (hmk : MkOk n k (budQ B) (useQ V)) (hE : Equi n k (budQ B) (useQ V) p s) (hm : MaskOf n k s e) :
    ∀ (g : Nat) (don : Nd → Bool), g ≤ k → strTo n k e g = some don → ∃ ss, solTo B V e n k g = some ss ∧ ss.don = don ∧ SolI B n k p s ss ∧ ∀ h, h < g → ss.don (true, h) = true
  | 0, don, _, h => by
    injection h with h
    exact ⟨sol0, rfl, h, SolI.zero, fun h hh => by omega⟩
  | g + 1, don, hg, h => by
    simp only [strTo] at h
    cases h1 : strTo n k e g with
    | none => rw [h1] at h; cases h
    | some d1 =>
      rw [h1] at h
      simp only [Option.bind_some] at h
      obtain ⟨ss, s1, s2, s3, s4⟩ := solve_found hn hk hG hub hmk hE hm g d1 (by omega) h1
      have hto : solTo B V e n k (g + 1) = solStep B V e n k g ss := by simp only [solTo, s1, Option.bind_some]
      by_cases hd : d1 (true, g) = true
      · rw [if_pos hd] at h
        injection h with h
        subst h
        refine ⟨ss, ?_, s2, s3, fun x hx => ?_⟩
        · rw [hto]
          unfold solStep
          rw [if_pos (by rw [s2]; exact hd)]
        · rcases Nat.lt_or_ge x g with h3 | h3
          · exact s4 x h3
          · rw [show x = g by omega, s2]; exact hd
      · rw [if_neg hd] at h
        cases h2 : compF (onesV n k) e n k g d1 (fun _ => 0) with
        | none => rw [h2] at h; cases h
        | some st' =>
          rw [h2] at h
          injection h with h
          have hu : ∀ i g, i < n → g < k → e.testBit (i * k + g) = true → useN V i g ≠ 0 := fun i g hi hg hb => by
            have := hE.use hmk.us hi hg ((hm i g hi hg).1 hb)
            unfold useQ at this
            have h3 : 0 < useN V i g := by exact_mod_cast this
            omega
          have hsame : Same (start0 ss.don ss.pq g) (start0 d1 (fun _ => 0) g) := ⟨rfl, rfl, by show upd ss.don _ _ = upd d1 _ _; rw [s2]⟩
          obtain ⟨st, h3, h4⟩ := same_srch hG (goodsN_ones hn.1) hu hsame 6 st' h2
          have hdf : ss.don (true, g) = false := by rw [s2]; simpa using hd
          obtain ⟨h5, h6⟩ := comp_found hG hub hmk hE hm s3 hn.2 hk (by omega) hdf h3
          have hi := compF_inv hub (by omega) h3
          refine ⟨_, ?_, ?_, h6, fun x hx => ?_⟩
          · rw [hto]
            unfold solStep
            rw [if_neg (by rw [hdf]; decide), h5]
            rfl
          · show st.don = don
            rw [h4.don]; exact h
          · show st.don (true, x) = true
            rw [hi.dn]
            rcases Nat.lt_or_ge x g with h7 | h7
            · exact .inl (s4 x h7)
            · exact .inr (by rw [show x = g by omega]; exact List.mem_of_getElem? hi.inv.hd)
end
theorem natBud {B : List Int} (h : ∀ b ∈ B, 1 ≤ b ∧ b ≤ 20) {i : Nat} (hi : i < B.length) : 0 < (B.getD i 0).toNat ∧ (((B.getD i 0).toNat : Nat) : Rat) = budQ B i := by
  have hb := h (B.getD i 0) (by
    rw [List.getD_eq_getElem?_getD, List.getElem?_eq_getElem hi]
    exact List.getElem_mem _)
  refine ⟨by omega, ?_⟩
  unfold budQ
  have : ((B.getD i 0).toNat : Int) = B.getD i 0 := Int.toNat_of_nonneg (by omega)
  rw [← this]
  rfl
theorem Equi.congr {n k : Nat} {b b' : Nat → Rat} {u : Nat → Nat → Rat} {p : Nat → Rat} {s : Nat → Nat → Rat} (h : Equi n k b u p s) (hb : ∀ i, i < n → b i = b' i) : Equi n k b' u p s := { h with row := fun i hi => by rw [h.row i hi, hb i hi] }
theorem equi_any {B : List Int} {V : List (List Int)} (hv : validM B V = true) : ∃ p s, Equi B.length (goodsN V) (budQ B) (useQ V) p s := by
  obtain ⟨hm, _, _⟩ := mkOk_of hv
  obtain ⟨⟨a1, a2, a3, a4⟩, b1, b2, b3⟩ := validM_iff.1 hv
  obtain ⟨p, s, h⟩ := exists_equi (n := B.length) (k := goodsN V) (b := fun i => (B.getD i 0).toNat) (u := useQ V) (by omega) (by omega) (fun i hi => (natBud a3 hi).1) hm.un hm.us hm.ug
  exact ⟨p, s, h.congr fun i hi => (natBud a3 hi).2⟩
/-- The program finds a balance of every valid market. -/
theorem found_any (B : List Int) (V : List (List Int)) : Found B V := by
  intro hv
  obtain ⟨hmk, hrow, hub⟩ := mkOk_of hv
  obtain ⟨⟨a1, a2, a3, a4⟩, b1, b2, b3⟩ := validM_iff.1 hv
  obtain ⟨p, s0, hE0⟩ := equi_any hv
  obtain ⟨s, e, hE, he, hm, hc⟩ := least_sp ⟨a1, a2⟩ b1 _ s0 hE0 (Nat.le_refl _)
  obtain ⟨don, hs⟩ := str_all ⟨a1, a2⟩ b1 he hc
  obtain ⟨ss, s1, s2, s3, s4⟩ := solve_found ⟨a1, a2⟩ b1.2 rfl hub hmk hE hm (goodsN V) don (Nat.le_refl _) hs
  have hbd : ∀ i, i < B.length → ss.don (false, i) = true := fun i hi => by
    have hex : ∃ h, h < goodsN V ∧ s i h ≠ 0 := by
      by_cases hx : ∃ h, h < goodsN V ∧ s i h ≠ 0
      · exact hx
      · exfalso
        have h1 := hE.row i hi
        rw [sumQ_zero fun h hh => by
          by_cases h0 : s i h = 0
          · exact h0
          · exact absurd ⟨h, hh, h0⟩ hx] at h1
        have := hmk.bp i hi
        grind
    obtain ⟨h, hh, h0⟩ := hex
    exact (s3.cl i h hi hh h0).2 (s4 h hh)
  have hall : allDon B.length ss = true := List.all_eq_true.2 fun i hi => hbd i (List.mem_range.1 hi)
  have hpq : ∀ g, g < goodsN V → priQ (solP (goodsN V) ss) g = p g := fun g hg => by
    unfold priQ solP
    rw [List.getD_eq_getElem?_getD, List.getElem?_map, List.getElem?_range hg]
    exact s3.pq g hg (s4 g hg)
  have hsp : ∀ i g, i < B.length → g < goodsN V → spd (solS B.length (goodsN V) ss) i g = s i g := fun i g hi hg => by
    unfold spd rowQ solS
    rw [List.getD_eq_getElem?_getD, List.getD_eq_getElem?_getD, List.getElem?_map, List.getElem?_range hi]
    simp only [Option.map_some, Option.getD_some]
    rw [List.getElem?_map, List.getElem?_range hg]
    exact s3.sp1 i hi (hbd i hi) g hg
  have hbal : balB B V (solP (goodsN V) ss) (solS B.length (goodsN V) ss) = true := by
    refine (bal_equi rfl (by simp [solP]) (fun q hq => ?_) hrow (fun i g => (hub i g).1)).2 ?_
    · obtain ⟨g, hg, rfl⟩ := List.mem_map.1 hq
      rw [s3.pq g (List.mem_range.1 hg) (s4 g (List.mem_range.1 hg))]
      exact hE.pos g (List.mem_range.1 hg)
    · exact {
        pos := fun g hg => by rw [hpq g hg]; exact hE.pos g hg
        nn := fun i g hi hg => by rw [hsp i g hi hg]; exact hE.nn i g hi hg
        row := fun i hi => by rw [← hE.row i hi]; exact sumQ_congr fun g hg => hsp i g hi hg
        col := fun g hg => by rw [hpq g hg, ← hE.col g hg]; exact sumQ_congr fun i hi => hsp i g hi hg
        want := fun i g hi hg h0 h hh => by
          rw [hpq g hg, hpq h hh]
          rw [hsp i g hi hg] at h0
          exact hE.want i g hi hg h0 h hh }
  have hF : ∃ r, solF B V e B.length (goodsN V) = some r := by
    unfold solF
    rw [s1]
    simp only [hall, hbal, Bool.and_self, if_true]
    exact ⟨_, rfl⟩
  obtain ⟨r, hr⟩ := hF
  have hto : ∃ r', balTo B V B.length (goodsN V) (e + 1) = some r' := by
    simp only [balTo]
    cases h1 : balTo B V B.length (goodsN V) e with
    | some r' => exact ⟨r', rfl⟩
    | none => exact ⟨r, hr⟩
  obtain ⟨r', hr'⟩ := hto
  exact ⟨r', balTo_some hr' _ (by omega)⟩

/- The worth of what a buyer gets, in balance: plain Lean. -/

/-- A worth, and its size. -/
def WoS (q : Rat) : Prop := 1 ≤ q.num ∧ q.num ≤ 480000 ∧ (q.den : Int) ≤ 48000
section
variable {B : List Int} {V : List (List Int)} {r : List Rat × List (List Rat)}
theorem wor_form (hv : validM B V = true) (h : SolR B V B.length (goodsN V) r) {i : Nat} (hi : i < B.length) : ∃ g0, g0 < goodsN V ∧ 0 < useN V i g0 ∧ worTo V r.1 r.2 i (goodsN V) * priQ r.1 g0 = useQ V i g0 * budQ B i ∧
    ∀ g, g < goodsN V → useQ V i g * priQ r.1 g0 ≤ useQ V i g0 * priQ r.1 g := by
  obtain ⟨hm, _, hu⟩ := mkOk_of hv
  have hE := h.equi hv
  have hex : ∃ g0, g0 < goodsN V ∧ spd r.2 i g0 ≠ 0 := by
    by_cases hx : ∃ g0, g0 < goodsN V ∧ spd r.2 i g0 ≠ 0
    · exact hx
    · exfalso
      have h1 := hE.row i hi
      rw [sumQ_zero fun g hg => by
        by_cases h2 : spd r.2 i g = 0
        · exact h2
        · exact absurd ⟨g, hg, h2⟩ hx] at h1
      have := hm.bp i hi
      grind
  obtain ⟨g0, hg0, hs0⟩ := hex
  have hp0 := hE.pos g0 hg0
  have hu0 := hE.use hm.us hi hg0 hs0
  have hw0 := hE.want i g0 hi hg0 hs0
  refine ⟨g0, hg0, ?_, ?_, hw0⟩
  · unfold useQ at hu0
    exact_mod_cast hu0
  · unfold worTo
    rw [← sq_mulr]
    have e : ∀ g, g < goodsN V → worQ V r.1 r.2 i g * priQ r.1 g0 = useQ V i g0 * spd r.2 i g := fun g hg => by
      unfold worQ
      have hp := hE.pos g hg
      by_cases h2 : spd r.2 i g = 0
      · rw [h2, Rat.mul_zero, Rat.div_def, Rat.zero_mul, Rat.zero_mul, Rat.mul_zero]
      · have h3 := hE.want i g hi hg h2 g0 hg0
        have h4 := hw0 g hg
        have h5 : useQ V i g * priQ r.1 g0 = useQ V i g0 * priQ r.1 g := Rat.le_antisymm h4 h3
        have hne : priQ r.1 g ≠ 0 := by grind
        generalize useQ V i g = a at *
        generalize useQ V i g0 = a0 at *
        generalize priQ r.1 g = pg at *
        generalize priQ r.1 g0 = pg0 at *
        generalize spd r.2 i g = s at *
        grind
    rw [sumQ_congr e, sumQ_mul]
    show useQ V i g0 * sumQ (spd r.2 i) (goodsN V) = _
    rw [hE.row i hi]
theorem fair_ge (hv : validM B V = true) (h : SolR B V B.length (goodsN V) r) {i g : Nat} (hi : i < B.length) (hg : g < goodsN V) : useQ V i g * budQ B i ≤ worTo V r.1 r.2 i (goodsN V) * priQ r.1 g := by
  obtain ⟨g0, hg0, _, e, hw⟩ := wor_form hv h hi
  obtain ⟨hm, _, _⟩ := mkOk_of hv
  have hE := h.equi hv
  have hp0 := hE.pos g0 hg0
  have h1 := hw g hg
  have hb := hm.bp i hi
  have h2 := Rat.mul_le_mul_of_nonneg_left (c := budQ B i) h1 (Rat.le_of_lt hb)
  refine Rat.le_of_mul_le_mul_right (c := priQ r.1 g0) ?_ hp0
  generalize worTo V r.1 r.2 i (goodsN V) = W at *
  generalize useQ V i g = a at *
  generalize useQ V i g0 = a0 at *
  generalize priQ r.1 g = pg at *
  generalize priQ r.1 g0 = pg0 at *
  generalize budQ B i = b at *
  have e2 : W * pg * pg0 = b * (a0 * pg) := by grind
  rw [e2]
  have e3 : a * b * pg0 = b * (a * pg0) := by grind
  rw [e3]
  exact h2
theorem fair_sum (hv : validM B V = true) (h : SolR B V B.length (goodsN V) r) {i : Nat} (hi : i < B.length) : sumQ (useQ V i) (goodsN V) * budQ B i ≤ worTo V r.1 r.2 i (goodsN V) * sumQ (budQ B) B.length := by
  have hE := h.equi hv
  have e : sumQ (budQ B) B.length = sumQ (priQ r.1) (goodsN V) := by
    rw [← sumQ_congr fun i hi => hE.row i hi, sq_swap]
    exact sumQ_congr fun g hg => hE.col g hg
  rw [e, ← sumQ_mul, ← sq_mulr]
  exact sq_mono fun g hg => fair_ge hv h hi hg
theorem fair_sm (hv : validM B V = true) (h : SolR B V B.length (goodsN V) r) {i : Nat} (hi : i < B.length) : WoS (worTo V r.1 r.2 i (goodsN V)) := by
  obtain ⟨g0, hg0, hu0, e, _⟩ := wor_form hv h hi
  have hE := h.equi hv
  have hp0 := hE.pos g0 hg0
  have hP := pri_sm h hg0
  have hub := (mkOk_of hv).2.2 i g0
  obtain ⟨⟨a1, a2, a3, a4⟩, b1, b2, b3⟩ := validM_iff.1 hv
  have hbi := a3 (B.getD i 0) (by
    rw [List.getD_eq_getElem?_getD, List.getElem?_eq_getElem hi]
    exact List.getElem_mem _)
  unfold useQ budQ at e
  generalize worTo V r.1 r.2 i (goodsN V) = W at *
  generalize useN V i g0 = u at *
  generalize B.getD i 0 = b at *
  generalize priQ r.1 g0 = p at *
  obtain ⟨p1, p2, p3⟩ := hP
  have hpd0 := den_pos p
  have eW : W = ((u * b * p.den : Int) : Rat) / ((p.num : Int) : Rat) := by
    rw [Rat.intCast_mul, Rat.intCast_mul]
    have hp' := num_den_of p
    have a2 : ((p.den : Int) : Rat) ≠ 0 := rat_ne (by omega)
    have a3 : (p.num : Rat) ≠ 0 := rat_ne (by omega)
    generalize ((p.den : Int) : Rat) = pd at *
    generalize (p.num : Rat) = pn at *
    subst hp'
    grind
  have h1 : 1 * 1 ≤ u * b ∧ u * b ≤ 20 * 20 := ⟨Int.mul_le_mul (by omega) hbi.1 (by omega) (by omega), Int.mul_le_mul hub.2 hbi.2 (by omega) (by omega)⟩
  have h2 : 1 * 1 ≤ u * b * (p.den : Int) ∧ u * b * (p.den : Int) ≤ 400 * 1200 := ⟨Int.mul_le_mul (by omega) (by omega) (by omega) (by omega), Int.mul_le_mul (by omega) p3 (by omega) (by omega)⟩
  have h4 := frac_bd (by omega) eW
  have h5 := frac_nn (by omega) (by omega) eW
  have h6 : W.num ≠ 0 := fun h0 => by
    have hz := Rat.num_eq_zero.1 h0
    rw [hz, Rat.zero_mul] at e
    have : (u : Rat) * (b : Rat) ≠ 0 := by
      rw [← Rat.intCast_mul]
      exact rat_ne (by omega)
    exact this e.symm
  unfold WoS
  omega
end

/- With equal budgets the worths in balance have at least the product of any division's: plain Lean. -/

theorem Equi.budScale {n k : Nat} {b : Nat → Rat} {u : Nat → Nat → Rat} {p : Nat → Rat} {s : Nat → Nat → Rat} (h : Equi n k b u p s) {c : Rat} (hc : 0 < c) : Equi n k (fun i => c * b i) u (fun g => c * p g) (fun i g => c * s i g) where
  pos := fun g hg => Rat.mul_pos hc (h.pos g hg)
  nn := fun i g hi hg => Rat.mul_nonneg (Rat.le_of_lt hc) (h.nn i g hi hg)
  row := fun i hi => by rw [sumQ_mul, h.row i hi]
  col := fun g hg => by rw [sumQ_mul, h.col g hg]
  want := fun i g hi hg hs x hx => by
    have h1 := h.want i g hi hg (fun h0 => hs (by rw [h0, Rat.mul_zero])) x hx
    have h2 := Rat.mul_le_mul_of_nonneg_left (c := c) h1 (Rat.le_of_lt hc)
    have e1 : u i x * (c * p g) = c * (u i x * p g) := by grind
    have e2 : u i g * (c * p x) = c * (u i g * p x) := by grind
    rw [e1, e2]
    exact h2
theorem q_pos {q : Rat} : 0 < q ↔ 0 < q.num := by
  constructor
  · intro h
    have h1 := Rat.num_nonneg.2 (Rat.le_of_lt h)
    have h2 : q.num ≠ 0 := fun h0 => by rw [Rat.num_eq_zero.1 h0] at h; exact absurd h (by decide)
    omega
  · intro h
    have h1 := Rat.num_nonneg.1 (Int.le_of_lt h)
    have h2 : q ≠ 0 := fun h0 => by rw [h0] at h; exact absurd h (by decide)
    grind
theorem wos_pos {q : Rat} (h : WoS q) : 0 < q := q_pos.2 (by have := h.1; omega)
/-- A worth with equal budgets, and its size. -/
def WoT (q : Rat) : Prop := 1 ≤ q.num ∧ q.num ≤ 24000 ∧ (q.den : Int) ≤ 3600
theorem valid_ones {B : List Int} {V : List (List Int)} (hv : validM B V = true) : validM (List.replicate B.length 1) V = true := by
  obtain ⟨⟨a1, a2, a3, a4⟩, b1, b2, b3⟩ := validM_iff.1 hv
  refine validM_iff.2 ⟨⟨by simpa using a1, by simpa using a2, fun b hb => ?_, by simpa using a4⟩, b1, b2, b3⟩
  rw [List.eq_of_mem_replicate hb]
  omega
theorem bud_ones {n i : Nat} (hi : i < n) : budQ (List.replicate n 1) i = 1 := by
  unfold budQ
  rw [List.getD_eq_getElem?_getD, List.getElem?_replicate, if_pos hi]
  rfl
theorem sumQ_ones (n : Nat) : sumQ (fun _ => (1 : Rat)) n = (n : Rat) := by
  induction n with
  | zero => rfl
  | succ n ih => show sumQ (fun _ => (1 : Rat)) n + 1 = _; rw [ih, Rat.natCast_add]; rfl
section
variable {B : List Int} {V : List (List Int)} {r : List Rat × List (List Rat)} {b : Int}
/-- The prices are those for budgets of 1, times the budget. -/
theorem one_price (hv : validM B V = true) (h : SolR B V B.length (goodsN V) r) (hb : ∀ i, i < B.length → B.getD i 0 = b) :
    ∃ q : Nat → Rat, ∀ g, g < goodsN V → priQ r.1 g = (b : Rat) * q g ∧ 0 < q g ∧ 1 ≤ (q g).num ∧ (q g).num ≤ 3600 ∧ ((q g).den : Int) ≤ 1200 := by
  have hv1 := valid_ones hv
  obtain ⟨r1, hr1⟩ := found_any _ _ hv1
  have hp1 : prF (List.replicate B.length 1) V = some r1 := by unfold prF; rw [if_pos hv1]; exact hr1
  have hS1 := (prF_ok hp1).2
  have hE1 := hS1.equi hv1
  have hE := h.equi hv
  obtain ⟨hm, _, hu⟩ := mkOk_of hv
  have hl : (List.replicate B.length (1 : Int)).length = B.length := List.length_replicate
  rw [hl] at hE1 hS1
  obtain ⟨⟨a1, a2, a3, a4⟩, b1, b2, b3⟩ := validM_iff.1 hv
  have hb0 : 0 < b := by
    have h1 := hb 0 (by omega)
    rw [List.getD_eq_getElem?_getD, List.getElem?_eq_getElem (by omega)] at h1
    have h2 := a3 _ (List.getElem_mem (show 0 < B.length by omega))
    simp only [Option.getD_some] at h1
    omega
  have hbq : (0 : Rat) < (b : Rat) := by exact_mod_cast hb0
  have hE2 : Equi B.length (goodsN V) (budQ B) (useQ V) (fun g => (b : Rat) * priQ r1.1 g) (fun i g => (b : Rat) * spd r1.2 i g) :=
    (hE1.budScale hbq).congr fun i hi => by
      show (b : Rat) * budQ (List.replicate B.length 1) i = budQ B i
      rw [bud_ones hi, Rat.mul_one]
      unfold budQ
      rw [hb i hi]
  have hun := hE.unique hE2 (fun i g _ _ => hm.un i g ‹_› ‹_›) hm.us
  refine ⟨priQ r1.1, fun g hg => ⟨hun g hg, hE1.pos g hg, ?_⟩⟩
  have hS2 : SolR (List.replicate B.length 1) V (List.replicate B.length (1 : Int)).length (goodsN V) r1 := by rw [hl]; exact hS1
  obtain ⟨p1, p2, p3⟩ := pri_sm hS2 hg
  have hsum : sumQ (priQ r1.1) (goodsN V) = (B.length : Rat) := by
    rw [← sumQ_congr fun g hg => hE1.col g hg, ← sq_swap, sumQ_congr fun i hi => hE1.row i hi, sumQ_congr fun i hi => bud_ones hi, sumQ_ones]
  have hle := sq_le (f := priQ r1.1) (n := goodsN V) (fun g hg => Rat.le_of_lt (hE1.pos g hg)) g hg
  rw [hsum] at hle
  have h3 : (B.length : Rat) ≤ ((3 : Int) : Rat) := by exact_mod_cast a2
  have h4 := rat_num_le (Rat.le_trans hle h3)
  exact ⟨p1, by omega, p3⟩
theorem wor_eq (hv : validM B V = true) (h : SolR B V B.length (goodsN V) r) (hb : ∀ i, i < B.length → B.getD i 0 = b) {i : Nat} (hi : i < B.length) : WoT (worTo V r.1 r.2 i (goodsN V)) := by
  obtain ⟨g0, hg0, hu0, e, _⟩ := wor_form hv h hi
  obtain ⟨q, hq⟩ := one_price hv h hb
  obtain ⟨q1, q2, q3, q4, q5⟩ := hq g0 hg0
  have hub := (mkOk_of hv).2.2 i g0
  obtain ⟨⟨a1, a2, a3, a4⟩, b1, b2, b3⟩ := validM_iff.1 hv
  have hbi := a3 (B.getD i 0) (by
    rw [List.getD_eq_getElem?_getD, List.getElem?_eq_getElem hi]
    exact List.getElem_mem _)
  rw [hb i hi] at hbi
  have hbq : (b : Rat) ≠ 0 := rat_ne (by omega)
  rw [q1] at e
  have e2 : budQ B i = (b : Rat) := by unfold budQ; rw [hb i hi]
  rw [e2] at e
  unfold useQ at e
  have hpos := wos_pos (fair_sm hv h hi)
  generalize worTo V r.1 r.2 i (goodsN V) = W at *
  generalize useN V i g0 = u at *
  generalize q g0 = p at *
  have hpd0 := den_pos p
  have e3 : W * p = (u : Rat) := by
    generalize (b : Rat) = x at *
    generalize (u : Rat) = y at *
    grind
  have eW : W = ((u * p.den : Int) : Rat) / ((p.num : Int) : Rat) := by
    rw [Rat.intCast_mul]
    have hp' := num_den_of p
    have a2 : ((p.den : Int) : Rat) ≠ 0 := rat_ne (by omega)
    have a3 : (p.num : Rat) ≠ 0 := rat_ne (by omega)
    generalize ((p.den : Int) : Rat) = pd at *
    generalize (p.num : Rat) = pn at *
    subst hp'
    grind
  have h2 : 1 * 1 ≤ u * (p.den : Int) ∧ u * (p.den : Int) ≤ 20 * 1200 := ⟨Int.mul_le_mul (by omega) (by omega) (by omega) (by omega), Int.mul_le_mul (by omega) q5 (by omega) (by omega)⟩
  have h4 := frac_bd (by omega) eW
  have h6 := q_pos.1 hpos
  unfold WoT
  omega
/-- What a division gives a buyer. -/
noncomputable def hav (V : List (List Int)) (d : Nat → Nat) (k i : Nat) : Rat := sumQ (fun g => one (d g = i) * useQ V i g) k
theorem one_sum {n j : Nat} (hj : j < n) : sumQ (fun i => one (j = i)) n = 1 := by
  have h := sumQ_one (f := fun i => one (j = i)) (n := n) hj fun i _ hne => one_f (fun h => hne h.symm)
  rw [h]
  exact one_t rfl
theorem nash_le (hv : validM B V = true) (h : SolR B V B.length (goodsN V) r) (hb : ∀ i, i < B.length → B.getD i 0 = b) (d : Nat → Nat) (hd : ∀ g, g < goodsN V → d g < B.length) (h0 : ∀ i, i < B.length → 0 < hav V d (goodsN V) i) :
    prodQ (hav V d (goodsN V)) B.length ≤ prodQ (fun i => worTo V r.1 r.2 i (goodsN V)) B.length := by
  obtain ⟨q, hq⟩ := one_price hv h hb
  obtain ⟨⟨a1, a2, a3, a4⟩, b1, b2, b3⟩ := validM_iff.1 hv
  have hE := h.equi hv
  have hb0 : 0 < b := by
    have h1 := hb 0 (by omega)
    rw [List.getD_eq_getElem?_getD, List.getElem?_eq_getElem (by omega)] at h1
    have h2 := a3 _ (List.getElem_mem (show 0 < B.length by omega))
    simp only [Option.getD_some] at h1
    omega
  have hbq : (0 : Rat) < (b : Rat) := by exact_mod_cast hb0
  have hW : ∀ i, i < B.length → 0 < worTo V r.1 r.2 i (goodsN V) := fun i hi => wos_pos (fair_sm hv h hi)
  have hfair : ∀ i g, i < B.length → g < goodsN V → useQ V i g ≤ worTo V r.1 r.2 i (goodsN V) * q g := fun i g hi hg => by
    have h1 := fair_ge hv h hi hg
    have e2 : budQ B i = (b : Rat) := by unfold budQ; rw [hb i hi]
    rw [e2, (hq g hg).1] at h1
    refine Rat.le_of_mul_le_mul_right (c := (b : Rat)) ?_ hbq
    have e3 : worTo V r.1 r.2 i (goodsN V) * q g * (b : Rat) = worTo V r.1 r.2 i (goodsN V) * ((b : Rat) * q g) := by grind
    rw [e3]
    exact h1
  have hqs : sumQ q (goodsN V) = (B.length : Rat) := by
    have e1 : sumQ (priQ r.1) (goodsN V) = (b : Rat) * (B.length : Rat) := by
      rw [← sumQ_congr fun g hg => hE.col g hg, ← sq_swap, sumQ_congr fun i hi => hE.row i hi, ← sumQ_ones, ← sumQ_mul]
      exact sumQ_congr fun i hi => by unfold budQ; rw [hb i hi, Rat.mul_one]
    rw [sumQ_congr fun g hg => (hq g hg).1, sumQ_mul] at e1
    have : (b : Rat) ≠ 0 := by grind
    generalize (b : Rat) = x at *
    generalize sumQ q (goodsN V) = y at *
    generalize (B.length : Rat) = z at *
    grind
  obtain ⟨x, hx⟩ : ∃ x : Nat → Rat, x = fun i => hav V d (goodsN V) i / worTo V r.1 r.2 i (goodsN V) := ⟨_, rfl⟩
  have hx0 : ∀ i, i < B.length → 0 < x i := fun i hi => by
    rw [hx]
    exact div_pos' (h0 i hi) (hW i hi)
  have hxe : ∀ i, i < B.length → hav V d (goodsN V) i = x i * worTo V r.1 r.2 i (goodsN V) := fun i hi => by
    have h1 := hW i hi
    rw [hx]
    show _ = hav V d (goodsN V) i / worTo V r.1 r.2 i (goodsN V) * worTo V r.1 r.2 i (goodsN V)
    generalize worTo V r.1 r.2 i (goodsN V) = W at *
    have : W ≠ 0 := by grind
    grind
  have hxle : ∀ i, i < B.length → x i ≤ sumQ (fun g => one (d g = i) * q g) (goodsN V) := fun i hi => by
    refine Rat.le_of_mul_le_mul_right (c := worTo V r.1 r.2 i (goodsN V)) ?_ (hW i hi)
    rw [← hxe i hi, ← sq_mulr]
    unfold hav
    refine sq_mono fun g hg => ?_
    have h1 := one_mul_le (P := d g = i) fun _ => hfair i g hi hg
    have e : one (d g = i) * q g * worTo V r.1 r.2 i (goodsN V) = one (d g = i) * (worTo V r.1 r.2 i (goodsN V) * q g) := by grind
    rw [e]
    exact h1
  have hsum : sumQ (fun i => ((1 : Nat) : Rat) * x i) B.length ≤ sumQ (fun _ => ((1 : Nat) : Rat)) B.length := by
    have e1 : sumQ (fun _ => ((1 : Nat) : Rat)) B.length = (B.length : Rat) := sumQ_ones _
    rw [e1, ← hqs]
    have e2 : sumQ q (goodsN V) = sumQ (fun i => sumQ (fun g => one (d g = i) * q g) (goodsN V)) B.length := by
      rw [sq_swap (fun i g => one (d g = i) * q g)]
      refine sumQ_congr fun g hg => ?_
      rw [sq_mulr, one_sum (hd g hg), Rat.one_mul]
    rw [e2]
    refine sq_mono fun i hi => ?_
    have : ((1 : Nat) : Rat) * x i = x i := Rat.one_mul _
    rw [this]
    exact hxle i hi
  have hp := wamgm (fun _ => 1) x B.length hx0 hsum
  rw [prodQ_congr fun i _ => Rat.pow_one (x i)] at hp
  rw [prodQ_congr hxe, prodQ_mul]
  have hWp := prodQ_pos (f := fun i => worTo V r.1 r.2 i (goodsN V)) hW
  have h1 := Rat.mul_le_mul_of_nonneg_right hp (Rat.le_of_lt hWp)
  rw [Rat.one_mul] at h1
  exact h1
end

/- What goods are worth: plain Lean. -/

/-- Row i of values. -/
def rowVS (V : List (List Int)) (i : Nat) : List Int := V.getD i []
/-- Numbers from 0 to 100. -/
def in100 (x : Int) : Bool := decide (0 ≤ x) && decide (x ≤ 100)
/-- Values of n people for m goods. -/
def valV (V : List (List Int)) : Bool := decide (1 ≤ V.length) && decide (V.length ≤ 4) && decide (1 ≤ (rowVS V 0).length) && decide ((rowVS V 0).length ≤ 7) && V.all fun r => decide (r.length = (rowVS V 0).length) && r.all in100
theorem valV_iff {V : List (List Int)} : valV V = true ↔ (1 ≤ V.length ∧ V.length ≤ 4) ∧ (1 ≤ (rowVS V 0).length ∧ (rowVS V 0).length ≤ 7) ∧ ∀ r ∈ V, r.length = (rowVS V 0).length ∧ ∀ x ∈ r, 0 ≤ x ∧ x ≤ 100 := by
  simp only [valV, Bool.and_eq_true, decide_eq_true_eq, List.all_eq_true, in100, and_assoc]
theorem rowV_getS {V : List (List Int)} {i : Nat} {r : List Int} (h : V[i]? = some r) : rowVS V i = r := by unfold rowVS; rw [List.getD_eq_getElem?_getD, h]; rfl

/-- What the goods before g that j has are worth by a row. -/
def worToS (row d : List Int) (j : Int) : Nat → Int
  | 0 => 0
  | g + 1 => worToS row d j g + if d.getD g 0 = j then row.getD g 0 else 0
def wor (V : List (List Int)) (d : List Int) (i : Nat) (j : Int) : Int := worToS (rowVS V i) d j d.length
theorem worTo_bd {row : List Int} (h : ∀ x ∈ row, 0 ≤ x ∧ x ≤ 100) (d : List Int) (j : Int) (g : Nat) : 0 ≤ worToS row d j g ∧ worToS row d j g ≤ 100 * g := by
  induction g with
  | zero => simp [worToS]
  | succ g ih =>
    have hb : 0 ≤ row.getD g 0 ∧ row.getD g 0 ≤ 100 := by
      rw [List.getD_eq_getElem?_getD]
      cases hx : row[g]? with
      | none => simp
      | some x => exact h x (List.mem_of_getElem? hx)
    have e : (100 : Int) * ((g + 1 : Nat) : Int) = 100 * g + 100 := by omega
    rw [e]
    simp only [worToS]
    split <;> omega
/-- What everyone has, by their own values. -/
def ownV (V : List (List Int)) (d : List Int) (k : Nat) : List Int := (List.range k).map fun i => wor V d i (i : Int)
theorem ownV_length (V : List (List Int)) (d : List Int) (k : Nat) : (ownV V d k).length = k := by simp [ownV]
theorem ownV_succ (V : List (List Int)) (d : List Int) (k : Nat) : ownV V d (k + 1) = ownV V d k ++ [wor V d k (k : Int)] := by simp [ownV, List.range_succ]
theorem ownV_get {V : List (List Int)} {d : List Int} {k i : Nat} (h : i < k) : (ownV V d k)[i]? = some (wor V d i (i : Int)) := by simp [ownV, h]

/- Values in memory; contracts of goods, worth and own of package split. -/

/-- The slice of slices at A reads as V. -/
def MatS (w : World) (A : Option Addr) (V : List (List Int)) : Prop :=
  ∀ (j : Nat) (r : List Int), V[j]? = some r → ∃ ad A' c, A = some ad ∧ w.cell? (ad.add j) = some (.slice A' r.length c) ∧ r.length ≤ c ∧ c ≤ 9223372036854775807 ∧ Ints w A' r
theorem MatS.keep {w w' : World} {A : Option Addr} {V : List (List Int)} (h : MatS w A V) (hk : ∀ p v, w.cell? p = some v → w'.cell? p = some v) : MatS w' A V := fun j r hj => by
  obtain ⟨ad, A', c, h1, h2, h3, h4, h5⟩ := h j r hj
  exact ⟨ad, A', c, h1, hk _ _ h2, h3, h4, At.keep h5 hk⟩
theorem MatS.below {w w' : World} {A : Option Addr} {V : List (List Int)} (h : MatS w A V) (hb : Below w.heap.size w w') : MatS w' A V :=
  h.keep fun _ _ hc => (hb.cell (lt_of_cell hc)).trans hc
theorem MatS.nil {w : World} {A : Option Addr} : MatS w A [] := fun j r h => by simp at h
theorem MatS.some_ {w : World} {A : Option Addr} {V : List (List Int)} (h : MatS w A V) (hn : 0 < V.length) : ∃ ad, A = some ad ∧ ad.block < w.heap.size ∧ ∀ (j : Nat) (r : List Int), V[j]? = some r → ∃ A' c, w.cell? (ad.add j) = some (.slice A' r.length c) ∧ r.length ≤ c ∧ c ≤ 9223372036854775807 ∧ Ints w A' r := by
  obtain ⟨ad, A', c, h1, h2, _⟩ := h 0 _ (List.getElem?_eq_getElem hn)
  refine ⟨ad, h1, by have := lt_of_cell h2; rwa [add_block] at this, fun j r hj => ?_⟩
  obtain ⟨ad', A', c, h1', h2, h3⟩ := h j r hj
  rw [h1] at h1'
  injection h1' with h1'
  subst h1'
  exact ⟨A', c, h2, h3⟩
/-- A list of rows that a call owns. -/
theorem MatS.of_rows {w : World} {b : Nat} {A : Option Addr} {vs : List Value} {V : List (List Int)} (hat : At w A vs) (h : Rows w b vs V) : MatS w A V := fun j r hj => by
  obtain ⟨v, hv, A', c, rfl, h1, h2, h3, _⟩ := h.2 j r hj
  obtain ⟨ad, hA, hc⟩ := hat j _ hv
  exact ⟨ad, A', c, hA, hc, h1, h2, h3⟩

theorem goods_any (A : Option Addr) (n cap m : Nat) (V : List (List Int)) (w : World) (hl : V.length = n) (hn : 1 ≤ n) (hn2 : n ≤ 1000) (hm : m = (rowVS V 0).length) (_hm2 : m ≤ 1000) (h : MatS w A V) :
    Calls Try.prog 47 #[.slice A n cap] w fun e w' => e = .returned (.int .i64 m) ∧ w = w' := by
  obtain ⟨ad, rfl, _, hc⟩ := h.some_ (by omega)
  obtain ⟨A', c, h1, hrest⟩ := hc 0 _ (List.getElem?_eq_getElem (by omega))
  clear hrest
  have e : (V[0]'(by omega)).length = m := by rw [hm, rowV_getS (List.getElem?_eq_getElem (by omega))]
  rw [e] at h1
  have c0 : w.cell? ad = some (.slice A' m c) := h1
  have l1 : (0 : Int) < (n : Int) := by omega
  clear hl hm h hc h1 e
  go_enter Try.func47, Try.ntmps47
  go_wp2_with fail
  go_ret
  exact ⟨rfl, rfl⟩

set_option maxHeartbeats 800000 in
theorem worth_any (A : Option Addr) (n cap : Nat) (D : Option Addr) (m capd i : Nat) (j : Int) (V : List (List Int)) (d : List Int) (w : World) (hl : V.length = n) (hn : n ≤ 1000) (hi : i < n) (hld : d.length = m) (hm : m ≤ 1000)
    (hr : (rowVS V i).length = m) (hrb : ∀ x ∈ rowVS V i, 0 ≤ x ∧ x ≤ 100) (hV : MatS w A V) (hD : Ints w D d) :
    Calls Try.prog 42 #[.slice A n cap, .slice D m capd, .int .i64 i, .int .i64 j] w fun e w' => e = .returned (.int .i64 (wor V d i j)) ∧ w = w' := by
  obtain ⟨ad, rfl, _, hc⟩ := hV.some_ (by omega)
  obtain ⟨A', c, h1, h2, h3, h4⟩ := hc i _ (List.getElem?_eq_getElem (by omega))
  have er : rowVS V i = V[i]'(by omega) := rowV_getS (List.getElem?_eq_getElem (by omega))
  rw [← er] at h1 h2 h4
  rw [hr] at h1 h2
  have hID := fun (hp : 0 < d.length) => hD.some_ hp
  have hIR := fun (hp : 0 < (rowVS V i).length) => h4.some_ hp
  have hw : wor V d i j = worToS (rowVS V i) d j m := by unfold wor; rw [hld]
  have H := Lib.hid (And.intro hld (And.intro hr (And.intro hrb (And.intro hID (And.intro hIR hw)))))
  have l1 : (i : Int) < (n : Int) := by omega
  have l2 : (0 : Int) ≤ (i : Int) := by omega
  clear hl hld hr hrb hV hD hc h4 er hID hIR hw
  go_enter Try.func42, Try.ntmps42
  go_wp2_with fail
  go_loop [9, 14] (fun s g => ∃ k : Nat, k ≤ m ∧ g = .int .i64 k ∧ s = .int .i64 (worToS (rowVS V i) d j k)) (fun _ g => m - (intOf g).toNat)
  case atStart => exact ⟨0, Nat.zero_le _, rfl, rfl⟩
  case round =>
    obtain ⟨k, hk, rfl, rfl⟩ := hrel
    by_cases hlt : k < m
    · obtain ⟨hld, hr, hrb, hID, hIR, hw⟩ := H.out
      obtain ⟨bd, rfl, _, hcd⟩ := hID (by omega)
      obtain ⟨br, rfl, _, hcr⟩ := hIR (by omega)
      obtain ⟨y, hy⟩ : ∃ y, d[k]? = some y := ⟨_, List.getElem?_eq_getElem (by omega)⟩
      obtain ⟨x, hx⟩ : ∃ x, (rowVS V i)[k]? = some x := ⟨_, List.getElem?_eq_getElem (by omega)⟩
      have c1 := hcd k y hy
      have c2 := hcr k x hx
      have hb := worTo_bd hrb d j k
      have hxb := hrb x (List.mem_of_getElem? hx)
      have hs : worToS (rowVS V i) d j (k + 1) = worToS (rowVS V i) d j k + if y = j then x else 0 := by
        rw [worToS, List.getD_eq_getElem?_getD, List.getD_eq_getElem?_getD, hy, hx]; rfl
      obtain ⟨s, hse⟩ : ∃ s, s = worToS (rowVS V i) d j k := ⟨_, rfl⟩
      rw [← hse] at hb hs ⊢
      have HS := Lib.hid hs
      clear hld hr hrb hID hIR hw hcd hcr hy hx hs hse
      by_cases he : y = j
      · have hb2 : (y == j) = true := by simp [he]
        have HN : Hid (worToS (rowVS V i) d j (k + 1) = s + x) := Lib.hid (by rw [HS.out, if_pos he])
        clear he
        go_wp2_with fail
        go_round
        case rel => exact ⟨k + 1, by omega, by go_num, by rw [HN.out]⟩
        case measure => simp [intOf]; omega
      · have hb2 : (y == j) = false := by simp [he]
        have HN : Hid (worToS (rowVS V i) d j (k + 1) = s) := Lib.hid (by rw [HS.out, if_neg he]; omega)
        clear he
        go_wp2_with fail
        go_round
        case rel => exact ⟨k + 1, by omega, by go_num, by rw [HN.out]⟩
        case measure => simp [intOf]; omega
    · obtain rfl : m = k := by omega
      have HW := Lib.hid H.out.2.2.2.2.2
      go_wp2_with fail
      go_ret
      exact ⟨ret_int HW.out.symm, rfl⟩

set_option maxHeartbeats 800000 in
theorem own_any (A : Option Addr) (n cap : Nat) (D : Option Addr) (m capd : Nat) (V : List (List Int)) (d : List Int) (w : World) (hl : V.length = n) (hn : n ≤ 1000) (hld : d.length = m) (hm : m ≤ 1000)
    (hr : ∀ i, i < n → (rowVS V i).length = m ∧ ∀ x ∈ rowVS V i, 0 ≤ x ∧ x ≤ 100) (hV : MatS w A V) (hD : Ints w D d) :
    Calls Try.prog 25 #[.slice A n cap, .slice D m capd] w fun e w' => ∃ A' c, e = .returned (.slice A' n c) ∧ w'.ownsRow w.heap.size 3 1 (.slice A' n c) n ((ownV V d n).map (Value.int .i64)) ∧ Below w.heap.size w w' := by
  have H := Lib.hid (And.intro hl (And.intro hld (And.intro hr (And.intro hV hD))))
  clear hl hld hr hV hD
  go_enter Try.func25, Try.ntmps25
  go_wp2_with fail
  go_loopw [5, 9] (fun ov iv wr => ∃ (k : Nat) (B : Option Addr) (bc : Nat), k ≤ n ∧ iv = .int .i64 k ∧ ov = .slice B k bc ∧ wr.ownsRow w.heap.size 3 1 (.slice B k bc) k ((ownV V d k).map (Value.int .i64)) ∧ Below w.heap.size w wr) (fun _ iv _ => n - (intOf iv).toNat)
  case atStart => exact ⟨0, none, 0, Nat.zero_le _, rfl, rfl, World.ownsRow_nil _ _ _ _, Below.refl _ _⟩
  case round =>
    obtain ⟨k, B, bc, hk, rfl, rfl, hown, hbl⟩ := hrel
    have HR := Lib.hid (And.intro hown hbl)
    have hws := hbl.size
    clear hown hbl
    by_cases hlt : k < n
    · have HNEW : Hid ((ownV V d (k + 1)).map (Value.int .i64) = (ownV V d k).map (Value.int .i64) ++ [.int .i64 (wor V d k (k : Int))]) := Lib.hid (by rw [ownV_succ]; simp)
      go_wp2_with fail
      refine (worth_any A n cap D m capd k (k : Int) V d _ H.out.1 hn hlt H.out.2.1 hm (H.out.2.2.1 k hlt).1 (H.out.2.2.1 k hlt).2 (H.out.2.2.2.1.below HR.out.2) (H.out.2.2.2.2.below HR.out.2)).mono ?_
      rintro e w' ⟨rfl, rfl⟩
      generalize wor V d k (k : Int) = x at HNEW ⊢
      go_wp2_with (at_builtin; refine app1 sty_int rfl _ _ rfl w.heap.size B k bc _ #[.int .i64 x] rfl (by simp [Value.oneCell']) rfl HR.out.1 rfl (by omega) (by omega) ?_)
      intro A4 k4 w4 hown4 _ hbl4 hk41 hk42
      rw [← HNEW.out] at hown4
      have HR4 := Lib.hid (And.intro hown4 (HR.out.2.trans hbl4))
      clear hown4 hbl4
      go_wp2_with fail
      go_roundw
      case rel => exact ⟨k + 1, A4, k4, by omega, by go_num, rfl, HR4.out.1, HR4.out.2⟩
      case measure => simp [intOf]; omega
    · obtain rfl : n = k := by omega
      go_wp2_with fail
      go_ret
      exact ⟨B, bc, rfl, HR.out.1, HR.out.2⟩

/- All divisions in order: numbers written with so many digits. Plain Lean. -/

/-- t with m digits to the base n, the greatest first. -/
def dig (n : Nat) : Nat → Nat → List Nat
  | 0, _ => []
  | m + 1, t => dig n m (t / n) ++ [t % n]
def dz (n m t : Nat) : List Int := (dig n m t).map Int.ofNat
theorem dig_length (n m t : Nat) : (dig n m t).length = m := by
  induction m generalizing t with
  | zero => rfl
  | succ m ih => simp [dig, ih]
theorem dz_length (n m t : Nat) : (dz n m t).length = m := by simp [dz, dig_length]
theorem dig_lt {n : Nat} (hn : 0 < n) (m t : Nat) : ∀ x ∈ dig n m t, x < n := by
  induction m generalizing t with
  | zero => simp [dig]
  | succ m ih =>
    intro x hx
    simp only [dig, List.mem_append, List.mem_singleton] at hx
    rcases hx with hx | rfl
    · exact ih _ x hx
    · exact Nat.mod_lt _ hn
theorem dz_lt {n : Nat} (hn : 0 < n) (m t : Nat) : ∀ x ∈ dz n m t, 0 ≤ x ∧ x < n := by
  intro x hx
  obtain ⟨y, hy, rfl⟩ := List.mem_map.1 hx
  have := dig_lt hn m t y hy
  show 0 ≤ (y : Int) ∧ (y : Int) < n
  omega
theorem dig_zero (n m : Nat) : dig n m 0 = List.replicate m 0 := by
  induction m with
  | zero => rfl
  | succ m ih => simp [dig, ih, List.replicate_succ']
theorem dz_zero (n m : Nat) : dz n m 0 = List.replicate m 0 := by simp [dz, dig_zero]
theorem dig_pow {n : Nat} (hn : 0 < n) (k j q : Nat) : dig n (k + j) (q * n ^ j) = dig n k q ++ List.replicate j 0 := by
  induction j with
  | zero => simp
  | succ j ih =>
    show dig n (k + j + 1) _ = _
    have e1 : q * n ^ (j + 1) = n * (q * n ^ j) := by rw [Nat.pow_succ, ← Nat.mul_assoc, Nat.mul_comm]
    rw [dig, e1, Nat.mul_div_cancel_left _ hn, ih, Nat.mul_mod_right, List.append_assoc, List.replicate_succ']
/-- The array while the last digits are turned to 0. -/
def dzs (n k j q : Nat) : List Int := dz n k q ++ List.replicate j 0
theorem dzs_length (n k j q : Nat) : (dzs n k j q).length = k + j := by simp [dzs, dz_length]
theorem dzs_start (n m t : Nat) : dzs n m 0 t = dz n m t := by simp [dzs]
theorem dzs_get (n k j q : Nat) : (dzs n (k + 1) j q)[k]? = some ((q % n : Nat) : Int) := by
  unfold dzs dz
  rw [dig, List.map_append, List.append_assoc, List.getElem?_append_right (by simp [dig_length])]
  simp [dig_length]
theorem dzs_set (n k j q : Nat) (x : Int) : (dzs n (k + 1) j q).set k x = dz n k (q / n) ++ x :: List.replicate j 0 := by
  unfold dzs dz
  rw [dig, List.map_append, List.append_assoc, List.set_append_right _ _ (by simp [dig_length])]
  simp [dig_length]
theorem dzs_on (n k j q : Nat) : (dzs n (k + 1) j q).set k 0 = dzs n k (j + 1) (q / n) := by
  rw [dzs_set]; rfl
theorem dzs_up {n : Nat} {k j q : Nat} (h : q % n < n - 1) : (dzs n (k + 1) j q).set k (((q % n : Nat) : Int) + 1) = dz n (k + 1 + j) ((q + 1) * n ^ j) := by
  have hn : 0 < n := by omega
  have e1 : (q + 1) / n = q / n := by
    have h1 := Nat.div_add_mod q n
    rw [Nat.div_eq_iff hn]
    have h2 : q / n * n = n * (q / n) := Nat.mul_comm _ _
    constructor <;> omega
  have e2 : (q + 1) % n = q % n + 1 := by
    have h1 := Nat.div_add_mod q n
    have h2 := Nat.div_add_mod (q + 1) n
    rw [e1] at h2
    omega
  rw [dzs_set]
  unfold dz
  rw [dig_pow hn, dig, e1, e2]
  simp
theorem last_on {n j q t : Nat} (hn : 0 < n) (ht : t + 1 = (q + 1) * n ^ j) (h : q % n = n - 1) : t + 1 = (q / n + 1) * n ^ (j + 1) := by
  have h1 := Nat.div_add_mod q n
  have e : q + 1 = (q / n + 1) * n := by
    rw [Nat.add_mul, Nat.one_mul, Nat.mul_comm]; omega
  rw [ht, e, Nat.pow_succ, Nat.mul_comm (n ^ j) n, Nat.mul_assoc]
theorem not_last {n k j q t : Nat} (ht : t < n ^ (k + 1 + j)) (he : t + 1 = (q + 1) * n ^ j) (h : q % n < n - 1) : t + 1 < n ^ (k + 1 + j) := by
  have hn : 0 < n := by omega
  refine Nat.lt_of_le_of_ne ht fun hc => ?_
  have h1 : (q + 1) * n ^ j = n ^ (k + 1) * n ^ j := by rw [← he, hc, Nat.pow_add]
  have h2 : q + 1 = n ^ (k + 1) := Nat.eq_of_mul_eq_mul_right (Nat.pow_pos hn) h1
  have h3 : (q + 1) % n = 0 := by rw [h2, Nat.pow_succ]; exact Nat.mul_mod_left _ _
  rw [Nat.add_mod] at h3
  have h4 : 1 % n = 1 := Nat.mod_eq_of_lt (by omega)
  rw [h4, Nat.mod_eq_of_lt (by omega)] at h3
  omega

/- Contract: each of package split, for whatever function it is called with. -/

theorem info_intD : (Try.prog.info? 3).map (fun i => (i.zero, i.size, i.bytes)) = some (some (.int .i64 0), 1, 8) := by kernel_rfl
/-- make(division, n). -/
theorem make_div (n : Nat) (hn : n ≤ 1000000) (w : World) : (Instr.makeSlice 54 (.int .i64 n) (.int .i64 n)).run Try.prog w = .ok (.slice (some ⟨w.heap.size, 0, none⟩) n n) (w.alloc (.cells (arr (List.replicate n 0)) 3)) := by
  obtain ⟨i0, hi, hz0, hz1, hz2⟩ := info_parts info_intD
  have hr := run_make (P := Try.prog) w 54 3 i0 (.int .i64 0) Try.underlying54 hi hz0 .i64 .i64 n n (by omega) (by omega) (by rw [hz2]; omega) (by omega)
  simp only [Int.toNat_natCast, hz1] at hr
  rw [hr, arr_zeros]

/-- What a call of the function leaves. -/
def EachPost (Inv : Nat → World → Prop) (Done : World → Prop) (n m t D : Nat) (e : Ending) (w' : World) : Prop :=
  (e = .returned (.bool true) ∧ Inv (t + 1) w' ∧ Blk w' D 3 (arr (dz n m t))) ∨ (e = .returned (.bool false) ∧ Done w')
/-- What each leaves. -/
def EachEnd (Inv : Nat → World → Prop) (Done : World → Prop) (k : Nat) (e : Ending) (w' : World) : Prop := e = .returned (.tuple #[]) ∧ (Inv k w' ∨ Done w')

/-- K is a function with a body. -/
def Ent (K : FuncId) : Prop := ∀ (args : Array Value) (w : World), (callFunc K args).run Try.prog w = .ok (.enter K args) w
theorem ent_of {K : FuncId} {fn : Func} (hf : Try.prog.funcs[K]? = some fn) (hn : (fn.name == "runtime.NumGoroutine") = false) (hb : fn.body.isNone = false) : Ent K := by
  intro args w
  have hn' : fn.name ≠ "runtime.NumGoroutine" := by simpa using hn
  have hb' : fn.body ≠ none := by intro h; rw [h] at hb; cases hb
  simp [callFunc, Sem.run_bind, hf, go_sem]
  rw [if_neg hn', if_neg hb']

set_option maxRecDepth 100000 in
set_option maxHeartbeats 1600000 in
theorem each_any (K : FuncId) (caps : Array Value) (A : Option Addr) (n cap m : Nat) (V : List (List Int)) (w : World) (Inv : Nat → World → Prop) (Done : World → Prop) (hK : Ent K)
    (hl : V.length = n) (hn : 1 ≤ n ∧ n ≤ 4) (hm : m = (rowVS V 0).length) (hm7 : 1 ≤ m ∧ m ≤ 7) (hV : MatS w A V)
    (hst : Inv 0 (w.alloc (.cells (arr (List.replicate m 0)) 3)))
    (hset : ∀ t w' i v, Inv t w' → Inv t (w'.setCell ⟨w.heap.size, i, none⟩ v))
    (hcall : ∀ t w', t < n ^ m → Inv t w' → Blk w' w.heap.size 3 (arr (dz n m t)) → Calls Try.prog K (#[.slice (some ⟨w.heap.size, 0, none⟩) m m] ++ caps) w' (EachPost Inv Done n m t w.heap.size)) :
    Calls Try.prog 38 #[.slice A n cap, .func (.func K) #[] caps] w (EachEnd Inv Done (n ^ m)) := by
  have hmk := make_div m (by omega)
  unfold Ent at hK
  have H := Lib.hid (And.intro hl (And.intro hm (And.intro hV (And.intro hst (And.intro hset hcall)))))
  clear hl hm hV hst hset hcall
  go_enter Try.func38, Try.ntmps38
  go_wp2_with fail
  refine (goods_any A n cap m V _ H.out.1 hn.1 (by omega) H.out.2.1 (by omega) H.out.2.2.1).mono ?_
  rintro e w' ⟨rfl, rfl⟩
  go_wp2_with fail
  go_loopg [] (n ^ m) (fun g wr => ∃ t : Nat, t < n ^ m ∧ g = n ^ m - t ∧ Inv t wr ∧ Blk wr w.heap.size 3 (arr (dz n m t)))
  case atStart => exact ⟨0, Nat.pow_pos (by omega), by simp, H.out.2.2.2.1, by rw [dz_zero]; exact Blk.new _ _ _ rfl⟩
  case round =>
    obtain ⟨t, ht, hgk, hInv, hB⟩ := hrel
    have HG := Lib.hid (And.intro ht hgk)
    have hc := H.out.2.2.2.2.2 t wr ht hInv hB
    have HC := Lib.hid hc
    clear ht hgk hInv hB hc
    go_wp2_with fail
    refine HC.out.mono ?_
    rintro e w2 (⟨rfl, hI2, hB2⟩ | ⟨rfl, hD2⟩)
    · obtain ⟨ht, hgk⟩ := HG.out
      have H2 := Lib.hid (And.intro hI2 hB2)
      have em : IntKind.i64.wrap ((m : Int) - 1) = (m : Int) - 1 := IntWalk.i64_in _ (by omega)
      clear hI2 hB2 ht hgk
      go_wp2_with fail
      go_loopg [5] (m + 1) (fun g gv wr => ∃ k j q : Nat, g = k + 1 ∧ k + j = m ∧ gv = .int .i64 ((k : Int) - 1) ∧ t + 1 = (q + 1) * n ^ j ∧ Inv (t + 1) wr ∧ Blk wr w.heap.size 3 (arr (dzs n k j q)))
      case atStart => exact ⟨m, 0, t, rfl, rfl, rfl, by simp, H2.out.1, by rw [dzs_start]; exact H2.out.2⟩
      case round =>
        obtain ⟨k, j, q, rfl, hkj, rfl, htq, hI, hB⟩ := hrel
        have HR := Lib.hid (And.intro htq (And.intro hI hB))
        clear htq hI hB
        by_cases hk0 : k = 0
        · subst hk0
          have hfin : t + 1 = n ^ m := by
            obtain ⟨htq, _, _⟩ := HR.out
            obtain ⟨ht, _⟩ := HG.out
            obtain rfl : j = m := by omega
            have h1 : (q + 1) * n ^ j ≤ 1 * n ^ j := by rw [Nat.one_mul]; omega
            have hpos : 0 < n ^ j := Nat.pow_pos (by omega)
            have h2 := Nat.le_of_mul_le_mul_right h1 hpos
            have : q = 0 := by omega
            subst this
            omega
          have HF := Lib.hid hfin
          clear hfin
          go_wp2_with fail
          go_end0
          exact ⟨rfl, .inl (by rw [← HF.out]; exact HR.out.2.1)⟩
        · obtain ⟨k', rfl⟩ : ∃ k', k = k' + 1 := ⟨k - 1, by omega⟩
          have eg : ((k' + 1 : Nat) : Int) - 1 = (k' : Int) := by omega
          rw [eg]
          clear eg
          obtain ⟨r, hr⟩ : ∃ r, r = q % n := ⟨_, rfl⟩
          have hrn : r < n := by rw [hr]; exact Nat.mod_lt _ (by omega)
          have c1 : wr.cell? ⟨w.heap.size, k', none⟩ = some (.int .i64 (r : Int)) := by rw [HR.out.2.2.cell, arr_get, dzs_get, hr]; rfl
          have f1 : wr.frozen? ⟨w.heap.size, k', none⟩ = false := HR.out.2.2.frozen k'
          have l1 : (k' : Int) < (m : Int) := by omega
          have l2 : (0 : Int) ≤ (k' : Int) := by omega
          have HQ := Lib.hid hr
          clear hr
          by_cases hlast : r = n - 1
          · have hb : ((r : Int) == (n : Int) - 1) = true := by rw [beq_iff_eq]; omega
            have HL := Lib.hid hlast
            clear hlast
            go_wp2_with fail
            go_roundg (k' + 1)
            case measure => omega
            case rel =>
              refine ⟨k', j + 1, q / n, rfl, by omega, rfl, last_on (by omega) HR.out.1 (by rw [← HQ.out]; exact HL.out), H.out.2.2.2.2.1 _ _ _ _ HR.out.2.1, ?_⟩
              rw [← dzs_on, ← arr_set]
              exact HR.out.2.2.set_ k' _
          · have hb : ((r : Int) == (n : Int) - 1) = false := by rw [beq_eq_false_iff_ne]; omega
            have hlt : q % n < n - 1 := by rw [← HQ.out]; omega
            have hup := dzs_up (k := k') (j := j) hlt
            have hnl := not_last (k := k') (j := j) (t := t) (by rw [show k' + 1 + j = m from by omega]; exact HG.out.1) HR.out.1 hlt
            rw [← HQ.out, ← HR.out.1, show k' + 1 + j = m from by omega] at hup
            rw [show k' + 1 + j = m from by omega] at hnl
            have HU := Lib.hid (And.intro hup hnl)
            clear hlt hup hnl hlast
            go_wp2_with fail
            go_roundg (n ^ m - (t + 1))
            case measure => have := HG.out; have := HU.out.2; omega
            case rel =>
              refine ⟨t + 1, HU.out.2, rfl, H.out.2.2.2.2.1 _ _ _ _ HR.out.2.1, ?_⟩
              rw [← HU.out.1, ← arr_set]
              exact HR.out.2.2.set_ k' _
    · have HD := Lib.hid hD2
      clear hD2
      go_wp2_with fail
      go_end0
      exact ⟨rfl, .inr HD.out⟩

/- Contract: cmp.isNaN of an int. -/

theorem isnan_any (x : Int) (w : World) : Calls Try.prog 55 #[.int .i64 x] w fun e w' => e = .returned (.bool false) ∧ w = w' := by
  have hb : (x != x) = false := by simp
  go_enter Try.func55, Try.ntmps55
  go_wp2_with fail
  go_ret
  exact ⟨rfl, rfl⟩

/- Contracts: cmp.Compare and slices.Compare of ints. -/

def cmpI (x y : Int) : Int := if x < y then -1 else if y < x then 1 else 0
/-- Which of two lists comes first. -/
def cmpL : List Int → List Int → Int
  | [], [] => 0
  | [], _ :: _ => -1
  | _ :: _, [] => 1
  | x :: a, y :: b => if cmpI x y = 0 then cmpL a b else cmpI x y
theorem cmpI_zero {x y : Int} : cmpI x y = 0 ↔ x = y := by
  unfold cmpI
  split
  · constructor
    · intro h; omega
    · omega
  · split
    · constructor
      · intro h; omega
      · omega
    · constructor
      · omega
      · omega
theorem cmpI_bd (x y : Int) : -1 ≤ cmpI x y ∧ cmpI x y ≤ 1 := by unfold cmpI; split <;> (try split) <;> omega
theorem cmpL_bd (a b : List Int) : -1 ≤ cmpL a b ∧ cmpL a b ≤ 1 := by
  induction a generalizing b with
  | nil => cases b <;> simp [cmpL]
  | cons x a ih =>
    cases b with
    | nil => simp [cmpL]
    | cons y b =>
      simp only [cmpL]
      split
      · exact ih b
      · exact cmpI_bd x y
theorem cmpL_get {a b : List Int} {k : Nat} {x y : Int} (hx : a[k]? = some x) (hy : b[k]? = some y) : cmpL (a.drop k) (b.drop k) = if cmpI x y = 0 then cmpL (a.drop (k + 1)) (b.drop (k + 1)) else cmpI x y := by
  obtain ⟨h1, e1⟩ := List.getElem?_eq_some_iff.1 hx
  obtain ⟨h2, e2⟩ := List.getElem?_eq_some_iff.1 hy
  rw [List.drop_eq_getElem_cons h1, List.drop_eq_getElem_cons h2, e1, e2, cmpL]
theorem cmpL_left {a b : List Int} {k : Nat} (h1 : k < a.length) (h2 : b.length ≤ k) : cmpL (a.drop k) (b.drop k) = 1 := by
  rw [List.drop_eq_getElem_cons h1, List.drop_of_length_le h2]; rfl
theorem cmpL_right {a b : List Int} {k : Nat} (h1 : a.length ≤ k) (h2 : k < b.length) : cmpL (a.drop k) (b.drop k) = -1 := by
  rw [List.drop_eq_getElem_cons h2, List.drop_of_length_le h1]; rfl
theorem cmpL_end {a b : List Int} {k : Nat} (h1 : a.length ≤ k) (h2 : b.length ≤ k) : cmpL (a.drop k) (b.drop k) = 0 := by
  rw [List.drop_of_length_le h1, List.drop_of_length_le h2]; rfl

theorem cmp_any (x y : Int) (w : World) : Calls Try.prog 48 #[.int .i64 x, .int .i64 y] w fun e w' => e = .returned (.int .i64 (cmpI x y)) ∧ w = w' := by
  by_cases h1 : x < y
  · have HE : Hid (cmpI x y = -1) := Lib.hid (by unfold cmpI; rw [if_pos h1])
    go_enter Try.func48, Try.ntmps48
    go_wp2_with fail
    refine (isnan_any x _).mono ?_
    rintro e w' ⟨rfl, rfl⟩
    go_wp2_with fail
    refine (isnan_any y _).mono ?_
    rintro e w' ⟨rfl, rfl⟩
    go_wp2_with fail
    go_ret
    exact ⟨ret_int HE.out.symm, rfl⟩
  · by_cases h2 : y < x
    · have HE : Hid (cmpI x y = 1) := Lib.hid (by unfold cmpI; rw [if_neg h1, if_pos h2])
      go_enter Try.func48, Try.ntmps48
      go_wp2_with fail
      refine (isnan_any x _).mono ?_
      rintro e w' ⟨rfl, rfl⟩
      go_wp2_with fail
      refine (isnan_any y _).mono ?_
      rintro e w' ⟨rfl, rfl⟩
      go_wp2_with fail
      go_ret
      exact ⟨ret_int HE.out.symm, rfl⟩
    · have HE : Hid (cmpI x y = 0) := Lib.hid (by unfold cmpI; rw [if_neg h1, if_neg h2])
      go_enter Try.func48, Try.ntmps48
      go_wp2_with fail
      refine (isnan_any x _).mono ?_
      rintro e w' ⟨rfl, rfl⟩
      go_wp2_with fail
      refine (isnan_any y _).mono ?_
      rintro e w' ⟨rfl, rfl⟩
      go_wp2_with fail
      go_ret
      exact ⟨ret_int HE.out.symm, rfl⟩

set_option maxHeartbeats 800000 in
theorem compare_any (A B : Option Addr) (n m ca cb : Nat) (ps qs : List Int) (w : World) (hl : ps.length = n) (hl' : qs.length = m) (hn : n ≤ 1000) (hm : m ≤ 1000) (h : Ints w A ps) (h' : Ints w B qs) :
    Calls Try.prog 40 #[.slice A n ca, .slice B m cb] w fun e w' => e = .returned (.int .i64 (cmpL ps qs)) ∧ w = w' := by
  have hI := fun (hp : 0 < ps.length) => h.some_ hp
  have hI' := fun (hp : 0 < qs.length) => h'.some_ hp
  have H := Lib.hid (And.intro hl (And.intro hl' (And.intro hI hI')))
  clear hl hl' hI hI' h h'
  go_enter Try.func40, Try.ntmps40
  go_wp2_with fail
  go_loop [11] (fun i => ∃ k : Nat, k ≤ n ∧ k ≤ m ∧ i = .int .i64 k ∧ cmpL ps qs = cmpL (ps.drop k) (qs.drop k)) (fun i => n - (intOf i).toNat)
  case atStart => exact ⟨0, Nat.zero_le _, Nat.zero_le _, rfl, rfl⟩
  case round =>
    obtain ⟨k, hk, hkm, rfl, he⟩ := hrel
    have HE := Lib.hid he
    clear he
    obtain ⟨hl, hl', hI, hI'⟩ := H.out
    by_cases hlt : k < n
    · by_cases hlm : k < m
      · obtain ⟨ad, rfl, _, hc⟩ := hI (by omega)
        obtain ⟨bd, rfl, _, hc'⟩ := hI' (by omega)
        obtain ⟨x, hx⟩ : ∃ x, ps[k]? = some x := ⟨_, List.getElem?_eq_getElem (by omega)⟩
        obtain ⟨y, hy⟩ : ∃ x, qs[k]? = some x := ⟨_, List.getElem?_eq_getElem (by omega)⟩
        have c1 := hc k x hx
        have c2 := hc' k y hy
        have HG := Lib.hid (cmpL_get hx hy)
        clear hl hl' hI hI' hc hc' hx hy
        go_wp2_with fail
        refine (cmp_any x y _).mono ?_
        rintro e w' ⟨rfl, rfl⟩
        by_cases hz : cmpI x y = 0
        · have HN : Hid (cmpL ps qs = cmpL (ps.drop (k + 1)) (qs.drop (k + 1))) := Lib.hid (by rw [HE.out, HG.out, if_pos hz])
          rw [hz]
          clear hz
          go_wp2_with fail
          go_round
          case rel => exact ⟨k + 1, by omega, by omega, by go_num, HN.out⟩
          case measure => simp [intOf]; omega
        · have HN : Hid (cmpL ps qs = cmpI x y) := Lib.hid (by rw [HE.out, HG.out, if_neg hz])
          have hb : (cmpI x y != 0) = true := by simpa using hz
          generalize cmpI x y = z at *
          clear hz
          go_wp2_with fail
          go_ret
          exact ⟨ret_int HN.out.symm, rfl⟩
      · have HN : Hid (cmpL ps qs = 1) := Lib.hid (by rw [HE.out, cmpL_left (by omega) (by omega)])
        obtain ⟨ad, rfl, _, hc⟩ := hI (by omega)
        obtain ⟨x, hx⟩ : ∃ x, ps[k]? = some x := ⟨_, List.getElem?_eq_getElem (by omega)⟩
        have c1 := hc k x hx
        clear hl hl' hI hI' hc hx
        go_wp2_with fail
        go_ret
        exact ⟨ret_int HN.out.symm, rfl⟩
    · obtain rfl : n = k := by omega
      by_cases hlm : n < m
      · have HN : Hid (cmpL ps qs = -1) := Lib.hid (by rw [HE.out, cmpL_right (by omega) (by omega)])
        clear hl hl' hI hI'
        go_wp2_with fail
        go_ret
        exact ⟨ret_int HN.out.symm, rfl⟩
      · have HN : Hid (cmpL ps qs = 0) := Lib.hid (by rw [HE.out, cmpL_end (by omega) (by omega)])
        clear hl hl' hI hI'
        go_wp2_with fail
        go_ret
        exact ⟨ret_int HN.out.symm, rfl⟩

/- Contract: slices.Clone of a division. -/

set_option maxHeartbeats 400000 in
theorem cloneD_any (A : Option Addr) (n cap : Nat) (xs : List Int) (w : World) (hl : xs.length = n) (hm : n ≤ 1000000000) (h : Ints w A xs) :
    Calls Try.prog 41 #[.slice A n cap] w fun e w' => ∃ A' c, e = .returned (.slice A' n c) ∧ w'.ownsRow w.heap.size 3 1 (.slice A' n c) n (xs.map (Value.int .i64)) ∧ Below w.heap.size w w' := by
  have qT : ∀ (w : World) (a : Option Addr) (n c n' c' : Nat), (binOp .eql 54 (.slice a n c) (.slice none n' c')).run Try.prog w = .ok (.bool a.isNone) w := fun w a n c n' c' => Lib.run_eql_slice_nil w _ _ a n c n' c' Try.underlying54
  obtain ⟨i0, hi, hz0, hz1, hz2⟩ := info_parts info_int
  rcases A with _ | ad
  · have h0 : xs = [] := by
      cases xs with
      | nil => rfl
      | cons x l => obtain ⟨ad, e, _⟩ := h 0 (.int .i64 x) rfl; cases e
    subst h0
    obtain rfl : n = 0 := by simpa using hl.symm
    clear h hl
    go_enter Try.func41, Try.ntmps41
    go_wp2
    go_ret
    exact ⟨none, 0, rfl, World.ownsRow_nil _ _ _ _, Below.refl _ _⟩
  · have HL := Lib.hid hl
    have HC := Lib.hid (At.some2 h)
    clear hl h
    go_enter Try.func41, Try.ntmps41
    go_wp2_with (at_builtin; refine wpList_append_own _ rfl _ _ 54 rfl w.heap.size 3 i0 (.int .i64 0) 1 8 Try.underlying54 hi hz0 hz1 hz2 rfl (by decide) _ 0 [] rfl (World.ownsRow_made w #[] 0 (Nat.le_refl _) (by decide) rfl) ad n cap (xs.map (Value.int .i64)) rfl ?c1 ?c2 ?c3 ?c4 ?c5 ?c6 ?_)
    case c1 => simpa using HL.out
    case c2 => exact At.new HC.out
    case c3 => exact ints_one xs
    case c4 => unfold maxLen; omega
    case c5 => omega
    case c6 => go_size
    intro v' w1 hown hgrow _
    obtain ⟨A', c, rfl, _⟩ := own_form hown
    go_wp2
    go_ret
    refine ⟨A', c, by simp, by simpa using hown, ?_⟩
    exact (((Below.refl _ _).alloc (Nat.le_refl _) _)).grown hgrow (by go_size) (by intro k hk; simp [Value.ownBlock] at hk; omega)

/- Contract: best of package split, for whatever score it is called with. -/

/-- The first of the first t divisions with the greatest score. -/
def bst (S : Nat → List Int) : Nat → Nat
  | 0 => 0
  | t + 1 => if t = 0 then 0 else if 0 < cmpL (S t) (S (bst S t)) then t else bst S t
theorem bst_lt (S : Nat → List Int) (t : Nat) (h : 0 < t) : bst S t < t := by
  induction t with
  | zero => omega
  | succ t ih =>
    simp only [bst]
    split
    · omega
    · split
      · omega
      · have := ih (by omega); omega

/-- What best works on. -/
structure SBX where
  w0 : World
  B : Nat
  n : Nat
  m : Nat
  K : FuncId
  caps : Array Value
  S : Nat → List Int
/-- The best so far. -/
def SBX.cur (X : SBX) (t : Nat) (w : World) : Prop :=
  (t = 0 → Blk w (X.B + 1) 54 #[.slice none 0 0] ∧ Blk w (X.B + 2) 22 #[.slice none 0 0]) ∧
  (0 < t → ∃ A c Am k cm, Blk w (X.B + 1) 54 #[.slice (some A) X.m c] ∧ X.m ≤ c ∧ c ≤ 9223372036854775807 ∧ Ints w (some A) (dz X.n X.m (bst X.S t)) ∧ X.B + 3 < A.block ∧
    Blk w (X.B + 2) 22 #[.slice Am k cm] ∧ k = (X.S (bst X.S t)).length ∧ k ≤ cm ∧ cm ≤ 9223372036854775807 ∧ Ints w Am (X.S (bst X.S t)) ∧ ∀ ad, Am = some ad → X.B + 3 < ad.block)
def SBX.inv (X : SBX) (t : Nat) (w : World) : Prop := Below X.B X.w0 w ∧ Blk w X.B 69 #[.func (.func X.K) #[] X.caps] ∧ X.cur t w

theorem ints_far {w : World} {A : Option Addr} {xs : List Int} (h : Ints w A xs) {p : Addr} (hp : ∀ ad, A = some ad → ad.block ≠ p.block) (v : Value) : Ints (w.setCell p v) A xs := by
  intro i u hu
  obtain ⟨ad, hA, hc⟩ := h i u hu
  refine ⟨ad, hA, ?_⟩
  rw [World.cell?_of_block (w := w) (Below.heap_setCell w p v _ (by rw [add_block]; exact hp ad hA))]
  exact hc
theorem SBX.cur_set {X : SBX} {t : Nat} {w : World} (h : X.cur t w) (i : Nat) (v : Value) : X.cur t (w.setCell ⟨X.B + 3, i, none⟩ v) := by
  refine ⟨fun h0 => ?_, fun h0 => ?_⟩
  · obtain ⟨h1, h2⟩ := h.1 h0
    exact ⟨h1.far (by show X.B + 1 ≠ X.B + 3; omega) _, h2.far (by show X.B + 2 ≠ X.B + 3; omega) _⟩
  · obtain ⟨A, c, Am, k, cm, h1, h1a, h1b, h2, h3, h4, h5, h5a, h5b, h6, h7⟩ := h.2 h0
    exact ⟨A, c, Am, k, cm, h1.far (by show X.B + 1 ≠ X.B + 3; omega) _, h1a, h1b, ints_far h2 (fun ad ha => by injection ha with ha; subst ha; show A.block ≠ X.B + 3; omega) _, h3, h4.far (by show X.B + 2 ≠ X.B + 3; omega) _, h5, h5a, h5b,
      ints_far h6 (fun ad ha => by have := h7 ad ha; show ad.block ≠ X.B + 3; omega) _, h7⟩
theorem SBX.inv_set {X : SBX} {t : Nat} {w : World} (h : X.inv t w) (i : Nat) (v : Value) : X.inv t (w.setCell ⟨X.B + 3, i, none⟩ v) :=
  ⟨h.1.setCell (by show X.B ≤ X.B + 3; omega) _, h.2.1.far (by show X.B ≠ X.B + 3; omega) _, SBX.cur_set h.2.2 i v⟩

/-- What the score answers. -/
def ScorePost (S : List Int) (w' : World) (e : Ending) (w'' : World) : Prop := ∃ A c, e = .returned (.slice A S.length c) ∧ w''.ownsRow w'.heap.size 3 1 (.slice A S.length c) S.length (S.map (Value.int .i64)) ∧ Below w'.heap.size w' w''

set_option maxRecDepth 100000 in
set_option maxHeartbeats 1600000 in
theorem best1_any (X : SBX) (hm7 : 1 ≤ X.m ∧ X.m ≤ 7) (hK : Ent X.K) (hS : ∀ t, (X.S t).length ≤ 1000) (t : Nat) (w : World)
    (hscore : Calls Try.prog X.K (#[.slice (some ⟨X.B + 3, 0, none⟩) X.m X.m] ++ X.caps) w (ScorePost (X.S t) w))
    (hinv : X.inv t w) (hD : Blk w (X.B + 3) 3 (arr (dz X.n X.m t))) :
    Calls Try.prog 39 #[.slice (some ⟨X.B + 3, 0, none⟩) X.m X.m, .pointer (some ⟨X.B, 0, none⟩), .pointer (some ⟨X.B + 1, 0, none⟩), .pointer (some ⟨X.B + 2, 0, none⟩)] w (EachPost X.inv (fun _ => False) X.n X.m t (X.B + 3)) := by
  have qT : ∀ (w : World) (a : Option Addr) (n c n' c' : Nat), (binOp .eql 54 (.slice a n c) (.slice none n' c')).run Try.prog w = .ok (.bool a.isNone) w := fun w a n c n' c' => Lib.run_eql_slice_nil w _ _ a n c n' c' Try.underlying54
  unfold Ent at hK
  obtain ⟨hbl, hof, hcur⟩ := hinv
  obtain ⟨o1, o2⟩ := hof.at1
  have hDw := hD.lt
  have HSC := Lib.hid hscore
  have H := Lib.hid (And.intro hbl (And.intro hof (And.intro hcur hD)))
  have HS := Lib.hid hS
  clear hbl hof hcur hD hscore hS
  go_enter Try.func39, Try.ntmps39
  go_wp2_with fail
  refine HSC.out.mono ?_
  rintro e w1 ⟨A1, c1, rfl, hown1, hb1⟩
  have hI1 : Ints w1 A1 (X.S t) := At.of_own hown1
  obtain ⟨_, _, he, hc11, hc12, _⟩ := own_form hown1
  injection he with e1 _ e3
  subst e1; subst e3
  have hA1 : ∀ ad, A1 = some ad → w.heap.size ≤ ad.block := by
    intro ad ha
    rcases hown1.2 with ⟨h, _⟩ | ⟨g, cap, cur, hv, hg, _⟩
    · rw [ha] at h; cases h
    · injection hv with h1
      rw [ha] at h1
      injection h1 with h1
      rw [h1]; exact hg
  obtain ⟨k1, hk1⟩ : ∃ k, k = (X.S t).length := ⟨_, rfl⟩
  have hk1b : k1 ≤ 1000 := by rw [hk1]; exact HS.out t
  rw [← hk1] at hc11 ⊢
  have hw1 := hb1.size
  have hD1 := H.out.2.2.2.below hb1 hDw
  have hID : Ints w1 (some ⟨X.B + 3, 0, none⟩) (dz X.n X.m t) := blk_ints hD1
  have hof1 := H.out.2.1.below hb1 (by omega)
  have hbl1 : Below X.B X.w0 w1 := H.out.1.trans (hb1.mono (by omega))
  have H1 := Lib.hid (And.intro hI1 (And.intro hb1 (And.intro hD1 (And.intro hof1 (And.intro hbl1 (And.intro hA1 (And.intro hk1 hID)))))))
  clear hown1 hI1 hb1 hD1 hof1 hbl1 hA1 hk1 hID
  -- what is left behind the two stores
  have fin : ∀ (w2 : World) (A2 : Addr) (c2 : Nat) (w5 : World), bst X.S (t + 1) = t → Below w1.heap.size w1 w2 → Ints w2 (some A2) (dz X.n X.m t) → w1.heap.size ≤ A2.block → X.m ≤ c2 → c2 ≤ 9223372036854775807 →
      Blk w2 (X.B + 1) 54 #[.slice none 0 0] ∧ Blk w2 (X.B + 2) 22 #[.slice none 0 0] ∨ (∃ v1 v2, Blk w2 (X.B + 1) 54 #[v1] ∧ Blk w2 (X.B + 2) 22 #[v2]) →
      w5 = (w2.setCell ⟨X.B + 1, 0, none⟩ (.slice (some A2) X.m c2)).setCell ⟨X.B + 2, 0, none⟩ (.slice A1 k1 c1) →
      X.inv (t + 1) w5 ∧ Blk w5 (X.B + 3) 3 (arr (dz X.n X.m t)) := by
    intro w2 A2 c2 w5 hbst hb2 hI2 hA2 hc21 hc22 hout hw5
    obtain ⟨hI1, hb1, hD1, hof1, hbl1, hA1, hk1, hID⟩ := H1.out
    have ho : ∃ v1 v2, Blk w2 (X.B + 1) 54 #[v1] ∧ Blk w2 (X.B + 2) 22 #[v2] := by
      rcases hout with ⟨h1, h2⟩ | h
      · exact ⟨_, _, h1, h2⟩
      · exact h
    obtain ⟨v1, v2, g1, g2⟩ := ho
    have q1 : Blk w5 (X.B + 1) 54 #[.slice (some A2) X.m c2] := by
      rw [hw5]; exact (g1.set_ 0 _).far (by show X.B + 1 ≠ X.B + 2; omega) _
    have q2 : Blk w5 (X.B + 2) 22 #[.slice A1 k1 c1] := by
      rw [hw5]; exact (g2.far (by show X.B + 2 ≠ X.B + 1; omega) _).set_ 0 _
    refine ⟨⟨?_, ?_, ?_⟩, ?_⟩
    · rw [hw5]; exact ((hbl1.trans (hb2.mono (by omega))).setCell (by show X.B ≤ X.B + 1; omega) _).setCell (by show X.B ≤ X.B + 2; omega) _
    · rw [hw5]; exact ((hof1.below hb2 (by omega)).far (by show X.B ≠ X.B + 1; omega) _).far (by show X.B ≠ X.B + 2; omega) _
    · refine ⟨fun h => by omega, fun _ => ?_⟩
      rw [hbst]
      refine ⟨A2, c2, A1, k1, c1, q1, hc21, hc22, ?_, by omega, q2, hk1, hc11, hc12, ?_, fun ad ha => by have := hA1 ad ha; omega⟩
      · rw [hw5]
        refine ints_far (ints_far hI2 (fun ad ha => ?_) _) (fun ad ha => ?_) _
        · injection ha with ha; subst ha; show A2.block ≠ X.B + 1; omega
        · injection ha with ha; subst ha; show A2.block ≠ X.B + 2; omega
      · rw [hw5]
        refine ints_far (ints_far (hI1.below hb2) (fun ad ha => ?_) _) (fun ad ha => ?_) _
        · have := hA1 ad ha; show ad.block ≠ X.B + 1; omega
        · have := hA1 ad ha; show ad.block ≠ X.B + 2; omega
    · rw [hw5]
      exact ((hD1.below hb2 (by omega)).far (by show X.B + 3 ≠ X.B + 1; omega) _).far (by show X.B + 3 ≠ X.B + 2; omega) _
  have FIN := Lib.hid fin
  clear fin
  by_cases h0 : t = 0
  · obtain ⟨g1, g2⟩ := H.out.2.2.1.1 h0
    have g1' := g1.below H1.out.2.1 (by omega)
    have g2' := g2.below H1.out.2.1 (by omega)
    obtain ⟨p1, p2⟩ := g1'.at1
    have HP := Lib.hid (And.intro g1' g2')
    have hBst : Hid (bst X.S (t + 1) = t) := Lib.hid (by rw [h0]; simp [bst])
    clear g1 g2 g1' g2' h0
    go_wp2_with fail
    refine (cloneD_any (some ⟨X.B + 3, 0, none⟩) X.m X.m (dz X.n X.m t) _ (by rw [dz_length]) (by omega) H1.out.2.2.2.2.2.2.2).mono ?_
    rintro e w2 ⟨A2, c2, rfl, hown2, hb2⟩
    have hI2 : Ints w2 A2 (dz X.n X.m t) := At.of_own hown2
    obtain ⟨g, rfl, hg, _⟩ := own_some hown2 (by omega)
    obtain ⟨_, _, he2, hc21, hc22, _⟩ := own_form hown2
    injection he2 with e4 _ e5
    subst e4
    subst e5
    have g1 := HP.out.1.below hb2 (by omega)
    have g2 := HP.out.2.below hb2 (by omega)
    obtain ⟨p3, p4⟩ := g1.at1
    obtain ⟨p5, p6⟩ := g2.at1
    have H2 := Lib.hid (FIN.out w2 ⟨g, 0, none⟩ c2 _ hBst.out hb2 hI2 hg hc21 hc22 (.inl ⟨g1, g2⟩) rfl)
    clear hown2 hI2 g1 g2 hb2 p1 p2
    go_wp2_with fail
    go_ret
    exact .inl ⟨rfl, H2.out⟩
  · obtain ⟨A, c, Am, k, cm, h1, h1a, h1b, h2, h3, h4, h5, h5a, h5b, h6, h7⟩ := H.out.2.2.1.2 (by omega)
    have g1' := h1.below H1.out.2.1 (by omega)
    have g2' := h4.below H1.out.2.1 (by omega)
    obtain ⟨p1, p2⟩ := g1'.at1
    obtain ⟨p3, p4⟩ := g2'.at1
    have hkb : k ≤ 1000 := by rw [h5]; exact HS.out _
    have hstep : bst X.S (t + 1) = if 0 < cmpL (X.S t) (X.S (bst X.S t)) then t else bst X.S t := by rw [bst, if_neg h0]
    have HP := Lib.hid (And.intro g1' (And.intro g2' (And.intro (h2.below H1.out.2.1) (And.intro (h6.below H1.out.2.1) (And.intro h5 (And.intro h7 hstep))))))
    clear h1 h2 h4 h5 h6 h7 g1' g2' hstep
    go_wp2_with fail
    refine (compare_any A1 Am k1 k c1 cm (X.S t) (X.S (bst X.S t)) _ H1.out.2.2.2.2.2.2.1.symm HP.out.2.2.2.2.1.symm hk1b hkb H1.out.1 HP.out.2.2.2.1).mono ?_
    rintro e w' ⟨rfl, rfl⟩
    have hcb := cmpL_bd (X.S t) (X.S (bst X.S t))
    have hst2 := HP.out.2.2.2.2.2.2
    obtain ⟨cv, hcv⟩ : ∃ cv, cv = cmpL (X.S t) (X.S (bst X.S t)) := ⟨_, rfl⟩
    rw [← hcv] at hcb hst2 ⊢
    have HST := Lib.hid hst2
    clear hst2 hcv
    by_cases hgt : 0 < cv
    · have hBst : Hid (bst X.S (t + 1) = t) := Lib.hid (by rw [HST.out, if_pos hgt])
      go_wp2_with fail
      refine (cloneD_any (some ⟨X.B + 3, 0, none⟩) X.m X.m (dz X.n X.m t) _ (by rw [dz_length]) (by omega) H1.out.2.2.2.2.2.2.2).mono ?_
      rintro e w2 ⟨A2, c2, rfl, hown2, hb2⟩
      have hI2 : Ints w2 A2 (dz X.n X.m t) := At.of_own hown2
      obtain ⟨g, rfl, hg, _⟩ := own_some hown2 (by omega)
      obtain ⟨_, _, he2, hc21, hc22, _⟩ := own_form hown2
      injection he2 with e4 _ e5
      subst e4
      subst e5
      have g1 := HP.out.1.below hb2 (by omega)
      have g2 := HP.out.2.1.below hb2 (by omega)
      clear p1 p2 p3 p4
      obtain ⟨p3, p4⟩ := g1.at1
      obtain ⟨p5, p6⟩ := g2.at1
      have H2 := Lib.hid (FIN.out w2 ⟨g, 0, none⟩ c2 _ hBst.out hb2 hI2 hg hc21 hc22 (.inr ⟨_, _, g1, g2⟩) rfl)
      clear hown2 hI2 g1 g2 hb2
      go_wp2_with fail
      go_ret
      exact .inl ⟨rfl, H2.out⟩
    · have hBst : Hid (bst X.S (t + 1) = bst X.S t) := Lib.hid (by rw [HST.out, if_neg hgt])
      go_wp2_with fail
      go_ret
      refine .inl ⟨rfl, ⟨H1.out.2.2.2.2.1, H1.out.2.2.2.1, ⟨fun h => by omega, fun _ => ?_⟩⟩, H1.out.2.2.1⟩
      rw [hBst.out]
      exact ⟨A, c, Am, k, cm, HP.out.1, h1a, h1b, HP.out.2.2.1, h3, HP.out.2.1, HP.out.2.2.2.2.1, h5a, h5b, HP.out.2.2.2.1, HP.out.2.2.2.2.2.1⟩

theorem ent_best1 : Ent 39 := ent_of Try.func39 (by kernel_rfl) (by kernel_rfl)

/-- What best leaves. -/
def BestPost (n m : Nat) (S : Nat → List Int) (b : Nat) (w : World) (e : Ending) (w' : World) : Prop :=
  ∃ A c Am cm, e = .returned (.tuple #[.slice (some A) m c, .slice Am (S b).length cm]) ∧ m ≤ c ∧ c ≤ 9223372036854775807 ∧ Ints w' (some A) (dz n m b) ∧ (S b).length ≤ cm ∧ cm ≤ 9223372036854775807 ∧ Ints w' Am (S b) ∧ Below w.heap.size w w'

set_option maxRecDepth 100000 in
set_option maxHeartbeats 1600000 in
theorem best_any (A : Option Addr) (n cap m : Nat) (V : List (List Int)) (K2 : FuncId) (caps2 : Array Value) (S : Nat → List Int) (w : World) (hK : Ent K2) (hS : ∀ t, (S t).length ≤ 1000)
    (hl : V.length = n) (hn : 1 ≤ n ∧ n ≤ 4) (hm : m = (rowVS V 0).length) (hm7 : 1 ≤ m ∧ m ≤ 7) (hV : MatS w A V)
    (hscore : ∀ t w', t < n ^ m → Below w.heap.size w w' → Blk w' (w.heap.size + 3) 3 (arr (dz n m t)) → Calls Try.prog K2 (#[.slice (some ⟨w.heap.size + 3, 0, none⟩) m m] ++ caps2) w' (ScorePost (S t) w')) :
    Calls Try.prog 23 #[.slice A n cap, .func (.func K2) #[] caps2] w (BestPost n m S (bst S (n ^ m)) w) := by
  have H := Lib.hid (And.intro hK (And.intro hS (And.intro hl (And.intro hm (And.intro hV hscore)))))
  clear hK hS hl hm hV hscore
  go_enter Try.func23, Try.ntmps23
  go_wp2_with fail
  obtain ⟨hK, hS, hl, hm, hV, hscore⟩ := H.out
  obtain ⟨X, hX⟩ : ∃ X : SBX, X = { w0 := w, B := w.heap.size, n := n, m := m, K := K2, caps := caps2, S := S } := ⟨_, rfl⟩
  have e1 : X.B = w.heap.size := by rw [hX]
  have hb3 : ∀ o1 o2 o3, Below w.heap.size w (((w.alloc o1).alloc o2).alloc o3) := fun o1 o2 o3 => (((Below.refl _ _).alloc (by go_size) _).alloc (by go_size) _).alloc (by go_size) _
  have hz : ∀ o1 o2 o3 : Obj, (((w.alloc o1).alloc o2).alloc o3).heap.size = w.heap.size + 3 := fun o1 o2 o3 => by simp
  refine (each_any 39 #[.pointer (some ⟨w.heap.size, 0, none⟩), .pointer (some ⟨w.heap.size + 1, 0, none⟩), .pointer (some ⟨w.heap.size + 1 + 1, 0, none⟩)] A n cap m V _ X.inv (fun _ => False) ent_best1 hl hn hm hm7 (hV.below (hb3 _ _ _)) ?hst ?hset ?hcall).mono ?_
  case hst =>
    have b1 : Blk ((((w.alloc (.cells #[.func (.func K2) #[] caps2] 69)).alloc (.cells #[.slice none 0 0] 54)).alloc (.cells #[.slice none 0 0] 22)).alloc (.cells (arr (List.replicate m 0)) 3)) w.heap.size 69 #[.func (.func K2) #[] caps2] := (((Blk.new _ _ _ rfl).alloc _).alloc _).alloc _
    have b2 : Blk ((((w.alloc (.cells #[.func (.func K2) #[] caps2] 69)).alloc (.cells #[.slice none 0 0] 54)).alloc (.cells #[.slice none 0 0] 22)).alloc (.cells (arr (List.replicate m 0)) 3)) (w.heap.size + 1) 54 #[.slice none 0 0] := ((Blk.new _ _ _ (by simp)).alloc _).alloc _
    have b3 : Blk ((((w.alloc (.cells #[.func (.func K2) #[] caps2] 69)).alloc (.cells #[.slice none 0 0] 54)).alloc (.cells #[.slice none 0 0] 22)).alloc (.cells (arr (List.replicate m 0)) 3)) (w.heap.size + 2) 22 #[.slice none 0 0] := (Blk.new _ _ _ (by simp)).alloc _
    rw [hX]
    exact ⟨(hb3 _ _ _).alloc (by simp; omega) _, b1, fun _ => ⟨b2, b3⟩, fun h => by omega⟩
  case hset =>
    intro t w' i v h
    rw [hz]
    have := SBX.inv_set h i v
    rwa [e1] at this
  case hcall =>
    intro t w' ht hinv hB
    rw [hz] at hB ⊢
    have hsc := hscore t w' ht (by have h := hinv.1; rw [hX] at h; exact h) hB
    have h := best1_any X (by rw [hX]; exact hm7) (by rw [hX]; exact hK) (by rw [hX]; exact hS) t w' (by rw [hX]; exact hsc) hinv (by rw [hX]; exact hB)
    rw [hX] at h ⊢
    exact h
  rintro e w' ⟨rfl, hi | hi⟩
  · have hpos : 0 < n ^ m := Nat.pow_pos (by omega)
    have hc := hi.2.2.2 hpos
    have hbl := hi.1
    rw [hX] at hc hbl
    obtain ⟨A', c, Am, k, cm, h1, h1a, h1b, h2, h3, h4, h5, h5a, h5b, h6, h7⟩ := hc
    obtain ⟨p1, p2⟩ := h1.at1
    obtain ⟨p3, p4⟩ := h4.at1
    simp only at p1 p2 p3 p4 h1a h5 h5a
    have HF := Lib.hid (And.intro h2 (And.intro h6 (And.intro hbl (And.intro h5 (And.intro h1a h5a)))))
    clear h1 h2 h3 h4 h5 h6 h7 hbl hi hz hb3 hK hS hl hm hV hscore hX e1 h1a h5a
    go_wp2_with fail
    go_quiet (fail)
    go_wp2_with fail
    go_ret2
    refine ⟨A', c, Am, cm, by rw [← HF.out.2.2.2.1]; rfl, HF.out.2.2.2.2.1, h1b, HF.out.1, by rw [← HF.out.2.2.2.1]; exact HF.out.2.2.2.2.2, h5b, HF.out.2.1, below_drewN HF.out.2.2.1 _⟩
  · exact hi.elim

/- Contract: the score of Nash (package split): how many people have something, and the product of what they have. -/

/-- How many of the list are above 0, and their product. -/
def posN : List Int → Int
  | [] => 0
  | x :: l => posN l + if 0 < x then 1 else 0
def posP : List Int → Int
  | [] => 1
  | x :: l => posP l * if 0 < x then x else 1
theorem posN_snoc (l : List Int) (x : Int) : posN (l ++ [x]) = posN l + if 0 < x then 1 else 0 := by
  induction l with
  | nil => simp [posN]
  | cons y l ih => simp only [List.cons_append, posN, ih]; omega
theorem posP_snoc (l : List Int) (x : Int) : posP (l ++ [x]) = posP l * if 0 < x then x else 1 := by
  induction l with
  | nil => simp [posP]
  | cons y l ih => simp only [List.cons_append, posP, ih]; exact Int.mul_right_comm _ _ _
theorem posN_take {l : List Int} {k : Nat} {x : Int} (h : l[k]? = some x) : posN (l.take (k + 1)) = posN (l.take k) + if 0 < x then 1 else 0 := by
  rw [List.take_add_one, h]; exact posN_snoc _ _
theorem posP_take {l : List Int} {k : Nat} {x : Int} (h : l[k]? = some x) : posP (l.take (k + 1)) = posP (l.take k) * if 0 < x then x else 1 := by
  rw [List.take_add_one, h]; exact posP_snoc _ _
theorem posN_bd (l : List Int) : 0 ≤ posN l ∧ posN l ≤ l.length := by
  induction l with
  | nil => simp [posN]
  | cons y l ih => simp only [posN, List.length_cons]; split <;> omega
theorem posP_bd (l : List Int) (h : ∀ x ∈ l, x ≤ 1000) : 1 ≤ posP l ∧ posP l ≤ 1000 ^ l.length := by
  induction l with
  | nil => simp [posP]
  | cons y l ih =>
    obtain ⟨a, b⟩ := ih fun x hx => h x (List.mem_cons_of_mem _ hx)
    have hy := h y (List.mem_cons_self ..)
    simp only [posP, List.length_cons]
    split
    · refine ⟨Int.le_trans (by omega) (Int.mul_le_mul a (show (1 : Int) ≤ y by omega) (by omega) (by omega)), ?_⟩
      rw [Int.pow_succ]
      exact Int.mul_le_mul b hy (by omega) (Int.pow_nonneg (by omega))
    · rw [Int.mul_one, Int.pow_succ]
      refine ⟨a, Int.le_trans b ?_⟩
      have : (0 : Int) ≤ 1000 ^ l.length := Int.pow_nonneg (by omega)
      omega

/-- The score of Nash. -/
def nashS (V : List (List Int)) (d : List Int) (n : Nat) : List Int := [posN (ownV V d n), posP (ownV V d n)]

theorem own_bd {V : List (List Int)} {d : List Int} {n : Nat} (hr : ∀ i, i < n → (rowVS V i).length = d.length ∧ ∀ x ∈ rowVS V i, 0 ≤ x ∧ x ≤ 100) (hd : d.length ≤ 7) : ∀ x ∈ ownV V d n, 0 ≤ x ∧ x ≤ 1000 := by
  intro x hx
  obtain ⟨i, hi, rfl⟩ := List.mem_map.1 hx
  have h := worTo_bd (hr i (List.mem_range.1 hi)).2 d (i : Int) d.length
  unfold wor
  omega

theorem own_new {w : World} (e : TypeId) (cs : Array Value) (h : cs.size ≤ maxLen) : (w.alloc (.cells cs e)).ownsRow w.heap.size e 1 (.slice (some ⟨w.heap.size, 0, none⟩) cs.size cs.size) cs.size cs.toList :=
  ⟨by simp, .inr ⟨w.heap.size, cs.size, cs, rfl, Nat.le_refl _, Blk.new w e cs rfl, Nat.le_refl _, h, by simp, by rw [List.take_of_length_le (by simp)]⟩⟩

set_option maxRecDepth 100000 in
set_option maxHeartbeats 1600000 in
theorem nash1_any (A : Option Addr) (n cap : Nat) (D : Option Addr) (m capd Bv : Nat) (V : List (List Int)) (d : List Int) (w : World) (hv : w.cell? ⟨Bv, 0, none⟩ = some (.slice A n cap)) (hl : V.length = n) (hn : n ≤ 4) (hld : d.length = m) (hm : m ≤ 7)
    (hr : ∀ i, i < n → (rowVS V i).length = m ∧ ∀ x ∈ rowVS V i, 0 ≤ x ∧ x ≤ 100) (hV : MatS w A V) (hD : Ints w D d) :
    Calls Try.prog 24 #[.slice D m capd, .pointer (some ⟨Bv, 0, none⟩)] w (ScorePost (nashS V d n) w) := by
  have H := Lib.hid (And.intro hl (And.intro hld (And.intro hr (And.intro hV hD))))
  have HB := Lib.hid (own_bd (V := V) (d := d) (n := n) (by rw [hld]; exact hr) (by omega))
  clear hl hld hr hV hD
  go_enter Try.func24, Try.ntmps24
  go_wp2_with fail
  refine (own_any A n cap D m capd V d _ H.out.1 (by omega) H.out.2.1 (by omega) H.out.2.2.1 H.out.2.2.2.1 H.out.2.2.2.2).mono ?_
  rintro e w1 ⟨A1, c1, rfl, hown, hb⟩
  have hI : Ints w1 A1 (ownV V d n) := At.of_own hown
  obtain ⟨o, ho⟩ : ∃ o, o = ownV V d n := ⟨_, rfl⟩
  have hol : o.length = n := by rw [ho, ownV_length]
  rw [← ho] at hI
  have HO := Lib.hid ho
  have HB' : Hid (∀ x ∈ o, 0 ≤ x ∧ x ≤ 1000) := Lib.hid (by rw [ho]; exact HB.out)
  have HI := Lib.hid (And.intro hI (And.intro hb hol))
  have hz := hb.size
  clear hown hI hb ho hol HB H
  go_wp2_with fail
  go_loop [4, 5, 12] (fun cv pv i => ∃ k : Nat, k ≤ n ∧ i = .int .i64 k ∧ cv = .int .i64 (posN (o.take k)) ∧ pv = .int .i64 (posP (o.take k))) (fun _ _ i => n - (intOf i).toNat)
  case atStart => exact ⟨0, Nat.zero_le _, rfl, rfl, rfl⟩
  case round =>
    obtain ⟨k, hk, rfl, rfl, rfl⟩ := hrel
    by_cases hlt : k < n
    · obtain ⟨x, hx⟩ : ∃ x, o[k]? = some x := ⟨_, List.getElem?_eq_getElem (by have := HI.out.2.2; omega)⟩
      obtain ⟨ad, rfl, hc⟩ := HI.out.1 k (.int .i64 x) (by rw [List.getElem?_map, hx]; rfl)
      have hx1 := HB'.out x (List.mem_of_getElem? hx)
      have hnb := posN_bd (o.take k)
      have hpb := posP_bd (o.take k) (fun x hx => (HB'.out x (List.mem_of_mem_take hx)).2)
      have hlen : (o.take k).length = k := by rw [List.length_take]; have := HI.out.2.2; omega
      rw [hlen] at hnb hpb
      have hpb2 : posP (o.take k) ≤ 1000000000 := by
        have : k ≤ 3 := by omega
        have h2 : ((1000 : Int) ^ k) ≤ 1000000000 := by
          have hk3 : k = 0 ∨ k = 1 ∨ k = 2 ∨ k = 3 := by omega
          rcases hk3 with rfl | rfl | rfl | rfl <;> decide
        omega
      have HN := Lib.hid (posN_take hx)
      have HP := Lib.hid (posP_take hx)
      generalize posN (o.take k) = cn at *
      generalize posP (o.take k) = pp at *
      have hmul : 0 ≤ pp * x ∧ pp * x ≤ 1000000000000 := ⟨Int.mul_nonneg (by omega) hx1.1, Int.le_trans (Int.mul_le_mul hpb2 hx1.2 hx1.1 (by omega)) (by omega)⟩
      have l1 : (k : Int) < (n : Int) := by omega
      clear hx hlen
      by_cases hpos : 0 < x
      · rw [if_pos hpos] at HN HP
        go_wp2_with fail
        go_round
        case rel => exact ⟨k + 1, by omega, by go_num, by rw [HN.out], by rw [HP.out]⟩
        case measure => simp [intOf]; omega
      · rw [if_neg hpos] at HN HP
        go_wp2_with fail
        go_round
        case rel => exact ⟨k + 1, by omega, by go_num, by rw [HN.out, Int.add_zero], by rw [HP.out, Int.mul_one]⟩
        case measure => simp [intOf]; omega
    · obtain rfl : n = k := by omega
      have HT : Hid (o.take n = o) := Lib.hid (List.take_of_length_le (by have := HI.out.2.2; omega))
      go_wp2_with fail
      go_ret
      rw [HT.out]
      unfold ScorePost nashS
      rw [← HO.out]
      exact ⟨_, 2, rfl, own_mono (own_new (w := w1) 3 #[.int .i64 (posN o), .int .i64 (posP o)] (show 2 ≤ maxLen by decide)) hz, HI.out.2.1.alloc hz _⟩

/- Contract: valid of package split. -/

/-- A row that is not valid. -/
def badR (m : Nat) (r : List Int) : Bool := !(decide (r.length = m) && r.all in100)
theorem badR_len {m : Nat} {r : List Int} (h : r.length ≠ m) : badR m r = true := by unfold badR; rw [decide_eq_false h]; rfl
theorem badR_in {m : Nat} {r : List Int} (h : r.length = m) (hm : 1 ≤ m) : badR m r = (decide (lmin r < 0) || decide (100 < lmax r)) := by
  have hne : r ≠ [] := by rintro rfl; simp at h; omega
  unfold badR
  rw [decide_eq_true h, Bool.true_and, Bool.eq_iff_iff]
  simp only [Bool.not_eq_true', Bool.or_eq_true, decide_eq_true_eq]
  rw [← Bool.not_eq_true, List.all_eq_true]
  have h1 := lmin_ge hne 0
  have h2 := lmax_le hne 100
  constructor
  · intro hn
    refine Decidable.byContradiction fun hc => hn fun x hx => ?_
    have a1 := h1.1 (by omega) x hx
    have a2 := h2.1 (by omega) x hx
    simp [in100, a1, a2]
  · intro hor hall
    have b1 := h1.2 fun x hx => by have := hall x hx; simp only [in100, Bool.and_eq_true, decide_eq_true_eq] at this; exact this.1
    have b2 := h2.2 fun x hx => by have := hall x hx; simp only [in100, Bool.and_eq_true, decide_eq_true_eq] at this; exact this.2
    omega

set_option maxHeartbeats 800000 in
theorem svalid1_any (R : Option Addr) (k capr Bv m : Nat) (A : Option Addr) (n cap : Nat) (r : List Int) (V : List (List Int)) (w : World) (hl : r.length = k) (hk : k ≤ 9223372036854775807) (hR : Ints w R r) (hv : w.cell? ⟨Bv, 0, none⟩ = some (.slice A n cap))
    (hlV : V.length = n) (hn : 1 ≤ n ∧ n ≤ 4) (hm : m = (rowVS V 0).length) (hm7 : 1 ≤ m ∧ m ≤ 7) (hV : MatS w A V) :
    Calls Try.prog 37 #[.slice R k capr, .pointer (some ⟨Bv, 0, none⟩)] w fun e w' => e = .returned (.bool (badR m r)) ∧ w = w' := by
  obtain ⟨ad, rfl, _, hc⟩ := hV.some_ (by omega)
  obtain ⟨A', c, h1, hrest⟩ := hc 0 _ (List.getElem?_eq_getElem (by omega))
  clear hrest
  have e : (V[0]'(by omega)).length = m := by rw [hm, rowV_getS (List.getElem?_eq_getElem (by omega))]
  rw [e] at h1
  have c0 : w.cell? ad = some (.slice A' m c) := h1
  have l1 : (0 : Int) < (n : Int) := by omega
  have H := Lib.hid (And.intro hl hR)
  obtain ⟨b, hb⟩ : ∃ b, b = badR m r := ⟨_, rfl⟩
  rw [← hb]
  have HBB := Lib.hid hb
  clear hl hm hV hc h1 e hR hlV hb
  by_cases hkm : k = m
  · subst hkm
    have HE : Hid (b = (decide (lmin r < 0) || decide (100 < lmax r))) := Lib.hid (by rw [HBB.out]; exact badR_in H.out.1 hm7.1)
    go_enter Try.func37, Try.ntmps37
    go_wp2_with fail
    refine (min_any R k capr r _ H.out.1 (by omega) hk H.out.2).mono ?_
    rintro e w' ⟨rfl, rfl⟩
    generalize lmin r = lo at *
    by_cases h1 : lo < 0
    · have HF : Hid (b = true) := Lib.hid (by rw [HE.out, decide_eq_true h1]; rfl)
      go_wp2_with fail
      go_ret
      exact ⟨ret_bool HF.out.symm, rfl⟩
    · go_wp2_with fail
      refine (max_any R k capr r _ H.out.1 (by omega) hk H.out.2).mono ?_
      rintro e w' ⟨rfl, rfl⟩
      go_wp2_with fail
      go_ret
      exact ⟨ret_bool HE.out.symm, rfl⟩
  · have HF : Hid (b = true) := Lib.hid (by rw [HBB.out]; exact badR_len (by rw [H.out.1]; exact hkm))
    have hne : ((k : Int) != (m : Int)) = true := by rw [bne_iff_ne]; omega
    clear hkm
    go_enter Try.func37, Try.ntmps37
    go_wp2_with fail
    go_ret
    exact ⟨ret_bool HF.out.symm, rfl⟩

/-- What IndexFunc leaves. -/
def AnyPost (b : Bool) (w : World) (e : Ending) (w' : World) : Prop := ∃ r : Int, e = .returned (.int .i64 r) ∧ w = w' ∧ -1 ≤ r ∧ decide (0 ≤ r) = b
set_option maxHeartbeats 800000 in
theorem indexV_any (A : Option Addr) (n cap Bv m : Nat) (V : List (List Int)) (w : World) (hv : w.cell? ⟨Bv, 0, none⟩ = some (.slice A n cap))
    (hlV : V.length = n) (hn : 1 ≤ n ∧ n ≤ 4) (hm : m = (rowVS V 0).length) (hm7 : 1 ≤ m ∧ m ≤ 7) (hV : MatS w A V) :
    Calls Try.prog 46 #[.slice A n cap, .func (.func 37) #[] #[.pointer (some ⟨Bv, 0, none⟩)]] w (AnyPost (V.any (badR m)) w) := by
  obtain ⟨ad, rfl, _, hc⟩ := hV.some_ (by omega)
  have H := Lib.hid (And.intro hlV (And.intro hm (And.intro hV (And.intro hc hv))))
  clear hlV hm hV hc
  go_enter Try.func46, Try.ntmps46
  go_wp2_with fail
  go_loop [8] (fun i => ∃ k : Nat, k ≤ n ∧ i = .int .i64 k ∧ (V.take k).any (badR m) = false) (fun i => n - (intOf i).toNat)
  case atStart => exact ⟨0, Nat.zero_le _, rfl, by simp⟩
  case round =>
    obtain ⟨k, hk, rfl, ha⟩ := hrel
    have HA := Lib.hid ha
    clear ha
    by_cases hlt : k < n
    · obtain ⟨hlV, hm, hV, hc, hv'⟩ := H.out
      obtain ⟨r, hr⟩ : ∃ r, V[k]? = some r := ⟨_, List.getElem?_eq_getElem (by omega)⟩
      obtain ⟨R, cr, g1, g2, g3, g4⟩ := hc k r hr
      have HX := Lib.hid (And.intro hr g4)
      have l1 : (k : Int) < (n : Int) := by omega
      clear hlV hm hV hc hr g4 hv'
      go_wp2_with fail
      refine (svalid1_any R r.length cr Bv m (some ad) n cap r V _ rfl (by omega) HX.out.2 hv H.out.1 hn H.out.2.1 hm7 H.out.2.2.1).mono ?_
      rintro e w' ⟨rfl, rfl⟩
      cases hb : badR m r
      · have HN : Hid ((V.take (k + 1)).any (badR m) = false) := Lib.hid (by rw [List.take_add_one, HX.out.1, List.any_append, HA.out]; simp [hb])
        clear hb
        go_wp2_with fail
        go_round
        case rel => exact ⟨k + 1, by omega, by go_num, HN.out⟩
        case measure => simp [intOf]; omega
      · have HN : Hid (V.any (badR m) = true) := Lib.hid (List.any_eq_true.2 ⟨r, List.mem_of_getElem? HX.out.1, hb⟩)
        clear hb
        go_wp2_with fail
        go_ret
        exact ⟨(k : Int), rfl, rfl, by omega, by rw [HN.out, decide_eq_true (by omega)]⟩
    · have HN : Hid (V.any (badR m) = false) := Lib.hid (by have h := HA.out; rwa [List.take_of_length_le (by rw [H.out.1]; omega)] at h)
      go_wp2_with fail
      go_ret
      exact ⟨-1, rfl, rfl, by omega, by rw [HN.out]; rfl⟩

theorem containsV_any (A : Option Addr) (n cap Bv m : Nat) (V : List (List Int)) (w : World) (hv : w.cell? ⟨Bv, 0, none⟩ = some (.slice A n cap))
    (hlV : V.length = n) (hn : 1 ≤ n ∧ n ≤ 4) (hm : m = (rowVS V 0).length) (hm7 : 1 ≤ m ∧ m ≤ 7) (hV : MatS w A V) :
    Calls Try.prog 36 #[.slice A n cap, .func (.func 37) #[] #[.pointer (some ⟨Bv, 0, none⟩)]] w fun e w' => e = .returned (.bool (V.any (badR m))) ∧ w = w' := by
  go_enter Try.func36, Try.ntmps36
  go_wp2_with fail
  refine (indexV_any A n cap Bv m V _ hv hlV hn hm hm7 hV).mono ?_
  rintro e w' ⟨r, rfl, rfl, hr, hd⟩
  have HD := Lib.hid hd
  clear hd hv hlV hm hV
  go_wp2_with fail
  go_ret
  exact ⟨ret_bool HD.out, rfl⟩

theorem valV_eq {V : List (List Int)} {m : Nat} (hn : 1 ≤ V.length ∧ V.length ≤ 4) (hm : m = (rowVS V 0).length) (hm7 : 1 ≤ m ∧ m ≤ 7) : valV V = !V.any (badR m) := by
  unfold valV
  rw [← hm, decide_eq_true hn.1, decide_eq_true hn.2, decide_eq_true hm7.1, decide_eq_true hm7.2]
  simp only [Bool.true_and]
  unfold badR
  rw [List.any_eq_not_all_not]
  simp

set_option maxRecDepth 100000 in
set_option maxHeartbeats 1600000 in
theorem svalid_any (A : Option Addr) (n cap : Nat) (V : List (List Int)) (w : World) (hl : V.length = n) (hn : n ≤ 9223372036854775807) (hV : MatS w A V) :
    Calls Try.prog 22 #[.slice A n cap] w fun e w' => e = .returned (.bool (valV V)) ∧ Below w.heap.size w w' := by
  obtain ⟨b, hb⟩ : ∃ b, b = valV V := ⟨_, rfl⟩
  rw [← hb]
  have HBB := Lib.hid (And.intro hb hl)
  by_cases h1 : n < 1
  · have HF : Hid (b = false) := Lib.hid (by rw [hb]; unfold valV; rw [decide_eq_false (by omega)]; rfl)
    clear hb hl hV
    go_enter Try.func22, Try.ntmps22
    go_wp2_with fail
    go_ret
    exact ⟨ret_bool HF.out.symm, (Below.refl _ _).alloc (Nat.le_refl _) _⟩
  · by_cases h2 : 4 < n
    · have HF : Hid (b = false) := Lib.hid (by rw [hb]; unfold valV; rw [decide_eq_false (p := V.length ≤ 4) (by omega)]; simp)
      clear hb hl hV
      go_enter Try.func22, Try.ntmps22
      go_wp2_with fail
      go_ret
      exact ⟨ret_bool HF.out.symm, (Below.refl _ _).alloc (Nat.le_refl _) _⟩
    · obtain ⟨m, hm⟩ : ∃ m, m = (rowVS V 0).length := ⟨_, rfl⟩
      obtain ⟨ad, rfl, had, hc⟩ := hV.some_ (by omega)
      obtain ⟨A', c, g1, g2, g3, g4⟩ := hc 0 _ (List.getElem?_eq_getElem (by omega))
      have e : (V[0]'(by omega)).length = m := by rw [hm, rowV_getS (List.getElem?_eq_getElem (by omega))]
      rw [e] at g1 g2
      have c0 : ∀ o, (w.alloc o).cell? ad = some (.slice A' m c) := fun o => (World.cell?_alloc_lt _ _ _ (lt_of_cell g1)).trans g1
      have H := Lib.hid (And.intro hb (And.intro hl (And.intro hm hV)))
      have l1 : (0 : Int) < (n : Int) := by omega
      clear hb hl hm hV hc g1 g4 e
      by_cases h3 : m < 1
      · have HF : Hid (b = false) := Lib.hid (by rw [H.out.1]; unfold valV; rw [← H.out.2.2.1, decide_eq_false (p := 1 ≤ m) (by omega)]; simp)
        go_enter Try.func22, Try.ntmps22
        go_wp2_with fail
        go_ret
        exact ⟨ret_bool HF.out.symm, (Below.refl _ _).alloc (Nat.le_refl _) _⟩
      · by_cases h4 : 7 < m
        · have HF : Hid (b = false) := Lib.hid (by rw [H.out.1]; unfold valV; rw [← H.out.2.2.1, decide_eq_false (p := m ≤ 7) (by omega)]; simp)
          go_enter Try.func22, Try.ntmps22
          go_wp2_with fail
          go_ret
          exact ⟨ret_bool HF.out.symm, (Below.refl _ _).alloc (Nat.le_refl _) _⟩
        · have HF : Hid (b = !V.any (badR m)) := Lib.hid (by rw [H.out.1]; exact valV_eq (by rw [H.out.2.1]; omega) H.out.2.2.1 (by omega))
          have hp : ∀ o, (w.alloc (.cells #[o] 53)).cell? ⟨w.heap.size, 0, none⟩ = some o := fun o => (Blk.new w 53 #[o] rfl).at1.1
          have HP := Lib.hid hp
          clear hp
          go_enter Try.func22, Try.ntmps22
          go_wp2_with fail
          refine (containsV_any (some ad) n cap w.heap.size m V _ (HP.out _) H.out.2.1 (by omega) H.out.2.2.1 (by omega) (H.out.2.2.2.below ((Below.refl _ _).alloc (Nat.le_refl _) _))).mono ?_
          rintro e w' ⟨rfl, rfl⟩
          go_wp2_with fail
          go_ret
          exact ⟨ret_bool HF.out.symm, (Below.refl _ _).alloc (Nat.le_refl _) _⟩

/- Contract: Nash of package split. -/

/-- Which division Nash takes. -/
def nashB (V : List (List Int)) : Nat := bst (fun t => nashS V (dz V.length (rowVS V 0).length t) V.length) (V.length ^ (rowVS V 0).length)

theorem ent_nash1 : Ent 24 := ent_of Try.func24 (by kernel_rfl) (by kernel_rfl)

theorem valV_rows {V : List (List Int)} {m : Nat} (h : valV V = true) (hm : m = (rowVS V 0).length) : ∀ i, i < V.length → (rowVS V i).length = m ∧ ∀ x ∈ rowVS V i, 0 ≤ x ∧ x ≤ 100 := by
  intro i hi
  obtain ⟨_, _, h3⟩ := valV_iff.1 h
  have e : rowVS V i = V[i]'hi := rowV_getS (List.getElem?_eq_getElem hi)
  rw [e, hm]
  exact h3 _ (List.getElem_mem hi)

/-- What Nash leaves. -/
def NashPost (V : List (List Int)) (w : World) (e : Ending) (w' : World) : Prop :=
  (valV V = false ∧ e = .returned (.tuple #[.slice none 0 0, .int .i64 0, .int .i64 2]) ∧ Below w.heap.size w w') ∨
  (valV V = true ∧ ∃ A c, e = .returned (.tuple #[.slice (some A) (rowVS V 0).length c, .int .i64 (posP (ownV V (dz V.length (rowVS V 0).length (nashB V)) V.length)), .int .i64 0]) ∧
    (rowVS V 0).length ≤ c ∧ c ≤ 9223372036854775807 ∧ Ints w' (some A) (dz V.length (rowVS V 0).length (nashB V)) ∧ Below w.heap.size w w')

set_option maxRecDepth 100000 in
set_option maxHeartbeats 1600000 in
theorem nash_any (A : Option Addr) (n cap : Nat) (V : List (List Int)) (w : World) (hl : V.length = n) (hn : n ≤ 9223372036854775807) (hV : MatS w A V) :
    Calls Try.prog 8 #[.slice A n cap] w (NashPost V w) := by
  have hp : ∀ o, Blk (w.alloc (.cells #[o] 53)) w.heap.size 53 #[o] := fun o => Blk.new w 53 #[o] rfl
  have hz1 : ∀ o, (w.alloc o).heap.size = w.heap.size + 1 := fun o => by simp
  have H := Lib.hid (And.intro hl (And.intro hV (And.intro hp hz1)))
  clear hV hp hz1
  go_enter Try.func8, Try.ntmps8
  go_wp2_with fail
  refine (svalid_any A n cap V _ H.out.1 hn (H.out.2.1.below ((Below.refl _ _).alloc (Nat.le_refl _) _))).mono ?_
  rintro e w1 ⟨rfl, hb1⟩
  obtain ⟨b, hb⟩ : ∃ b, b = valV V := ⟨_, rfl⟩
  rw [← hb]
  have hBlk : Blk w1 w.heap.size 53 #[.slice A n cap] := (H.out.2.2.1 _).below hb1 (by go_size)
  have hbl1 : Below w.heap.size w w1 := ((Below.refl w.heap.size w).alloc (Nat.le_refl _) _).trans (hb1.mono (by go_size))
  have hw1 := hb1.size
  have c1 := hBlk.at1.1
  have HB := Lib.hid (And.intro hb (And.intro hBlk hbl1))
  clear hb hb1 hBlk hbl1
  cases b
  · go_wp2_with fail
    go_ret3
    exact .inl ⟨HB.out.1.symm, rfl, HB.out.2.2⟩
  · have hv1 := valV_iff.1 HB.out.1.symm
    have hn4 : 1 ≤ n ∧ n ≤ 4 := by rw [← hl]; exact hv1.1
    obtain ⟨m, hm⟩ : ∃ m, m = (rowVS V 0).length := ⟨_, rfl⟩
    have hm7 : 1 ≤ m ∧ m ≤ 7 := by rw [hm]; exact hv1.2.1
    have HR := Lib.hid (And.intro hm (valV_rows HB.out.1.symm hm))
    clear hv1 hm
    go_wp2_with fail
    refine (best_any A n cap m V 24 #[.pointer (some ⟨w.heap.size, 0, none⟩)] (fun t => nashS V (dz n m t) n) w1 ent_nash1 (fun t => by simp [nashS]) H.out.1 hn4 HR.out.1 hm7 (H.out.2.1.below HB.out.2.2) ?hs).mono ?_
    case hs =>
      intro t w' ht hb' hB
      have hw := hb'.size
      refine nash1_any A n cap (some ⟨w1.heap.size + 3, 0, none⟩) m m w.heap.size V (dz n m t) w' ?_ H.out.1 hn4.2 (dz_length _ _ _) hm7.2 (by rw [← H.out.1]; exact HR.out.2) ((H.out.2.1.below HB.out.2.2).below hb') (blk_ints hB)
      exact (HB.out.2.1.below hb' HB.out.2.1.lt).at1.1
    rintro e w2 ⟨A2, c2, Am, cm, rfl, g1, g2, g3, g4, g5, g6, g7⟩
    obtain ⟨ad, rfl, hc⟩ := g6 1 (.int .i64 (posP (ownV V (dz n m (bst (fun t => nashS V (dz n m t) n) (n ^ m))) n))) rfl
    have HF := Lib.hid (And.intro g3 g7)
    have hlen : (nashS V (dz n m (bst (fun t => nashS V (dz n m t) n) (n ^ m))) n).length = 2 := rfl
    rw [hlen] at g4 ⊢
    clear g3 g6 g7 hlen
    have hbb : nashB V = bst (fun t => nashS V (dz n m t) n) (n ^ m) := by unfold nashB; rw [H.out.1, ← HR.out.1]
    have HBB := Lib.hid hbb
    clear hbb
    generalize bst (fun t => nashS V (dz n m t) n) (n ^ m) = bb at *
    obtain ⟨pp, hpp⟩ : ∃ pp, pp = posP (ownV V (dz n m bb) n) := ⟨_, rfl⟩
    rw [← hpp] at hc
    have HPP := Lib.hid hpp
    clear hpp
    have hc3 : w2.cell? ⟨ad.block, ad.off + 1, none⟩ = some (.int .i64 pp) := hc
    go_wp2_with fail
    go_quiet (fail)
    go_wp2_with fail
    go_ret3
    refine .inr ⟨HB.out.1.symm, A2, c2, ?_, by rw [← HR.out.1]; exact g1, g2, ?_, HB.out.2.2.trans (below_drewN (HF.out.2.mono HB.out.2.2.size) _)⟩
    · rw [H.out.1, ← HR.out.1, HBB.out, ← HPP.out]; rfl
    · rw [H.out.1, ← HR.out.1, HBB.out]; exact HF.out.1

end Go.Proofs.Ytoeohpkdjlfooaa
