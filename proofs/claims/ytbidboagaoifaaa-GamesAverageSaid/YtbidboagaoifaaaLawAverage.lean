/- GamesAverage returns true for every costs: the walk. -/
import Derived.Test.YtbidboagaoifaaaLawShapley
import Derived.Test.YtbidboagaoifaaaAvgLaw
import Derived.Test.YtbidboagaoifaaaDesc
namespace Go.Proofs.Ytbidboagaoifaaa
open Go.RowKit

theorem joinZ_nats (c : List Int) (os : List Nat) : joinZ c (os.map Int.ofNat) = joinL c os := by unfold joinZ; rw [toNat_of os rfl]
theorem Rows.at {w w' : World} {b : Nat} {vs : List Value} {L : List (List Nat)} (h : Rows w b vs (zs L)) {j : Nat} {os : List Nat} (hos : L[j]? = some os) (hb : Below w.heap.size w w') :
    ∃ A c, vs[j]? = some (.slice A os.length c) ∧ os.length ≤ c ∧ c ≤ 9223372036854775807 ∧ Ints w' A (os.map Int.ofNat) := by
  obtain ⟨v, hv, A, c, rfl, h1, h2, h3, _⟩ := h.2 j _ (zs_get hos)
  simp only [List.length_map] at hv h1
  exact ⟨A, c, hv, h1, h2, h3.below hb⟩
theorem Ints.kept_ {w w' : World} {B : Nat} {S : List Nat} {A : Option Addr} {xs : List Int} (h : Ints w A xs) (hk : Kept B S w w') (hB : w.heap.size ≤ B) (hS : ∀ ad, A = some ad → ad.block ∉ S) : Ints w' A xs := by
  intro i v hv
  obtain ⟨ad, hA, hc⟩ := h i v hv
  have := lt_of_cell hc
  exact ⟨ad, hA, (hk.cell (by omega) (by rw [add_block]; exact hS ad hA)).trans hc⟩
theorem add_at (g j : Nat) : (⟨g, 0, none⟩ : Addr).add j = ⟨g, j, none⟩ := by
  unfold Addr.add; split
  · rename_i h; subst h; rfl
  · simp

set_option maxRecDepth 100000 in
set_option maxHeartbeats 1600000 in
theorem average_bad (A : Option Addr) (n cap : Nat) (c : List Int) (w : World) (hl : c.length = n) (hcp : n ≤ cap) (hm : cap ≤ 9223372036854775807)
    (hv : valC c = false) (hc : Ints w A c) :
    Calls Try.prog 6 #[.slice A n cap] w fun e w' => e = .returned (.bool true) ∧ Below w.heap.size w w' := by
  have H := Lib.hid (And.intro hl hc)
  have HV : Hid (valC c = false ∧ valC (c.take 18) = false) := Lib.hid ⟨hv, by rw [valC_take]; exact hv⟩
  clear hl hc hv
  go_enter Try.func6, Try.ntmps6
  go_wp2_with fail
  refine (list_any A n cap c _ H.out.1 hcp hm H.out.2).mono ?_
  rintro e w1 ⟨A1, c1, rfl, hown, hb⟩
  have hI : Ints w1 A1 (c.take 18) := At.of_own hown
  have hlt : (c.take 18).length = min n 18 := by rw [List.length_take, H.out.1]; omega
  have H1 := Lib.hid (And.intro hI (And.intro hb hlt))
  clear hown hb hI hlt
  go_wp2_with fail
  refine (shapley_bad A1 (min n 18) c1 (c.take 18) _ H1.out.2.2 (by omega) H1.out.1 HV.out.2).mono ?_
  rintro e w2 ⟨rfl, hb2⟩
  have HB := Lib.hid (H1.out.2.1.trans (hb2.mono H1.out.2.1.size))
  clear hb2
  go_wp2_with fail
  refine (rplayers_any A n cap c _ H.out.1 (by omega) (H.out.2.below HB.out)).mono ?_
  rintro e w' ⟨rfl, rfl⟩
  rw [plr_bad HV.out.1]
  go_wp2_with fail
  refine (awake_any _).mono ?_
  rintro e w3 ⟨rfl, hb3⟩
  have HB3 := Lib.hid (HB.out.trans (hb3.mono HB.out.size))
  clear hb3
  go_wp2
  go_ret
  exact ⟨rfl, HB3.out⟩

set_option maxRecDepth 100000 in
set_option maxHeartbeats 8000000 in
theorem average_ok (ad : Addr) (N cap : Nat) (c : List Int) (w : World) (hl : c.length = N) (hcp : N ≤ cap) (hm : cap ≤ 9223372036854775807)
    (hv : valC c = true) (hc : Ints w (some ad) c) :
    Calls Try.prog 6 #[.slice (some ad) N cap] w fun e w' => e = .returned (.bool true) ∧ Below w.heap.size w w' := by
  have hp := valC_pow hv
  have hlen := (valC_iff.1 hv).1
  have h18 : c.take 18 = c := take18 (by omega)
  have hn18 : min N 18 = N := by omega
  obtain ⟨n, hnp⟩ : ∃ n, n = plr c := ⟨_, rfl⟩
  rw [← hnp] at hp
  have hadw : ad.block < w.heap.size := by obtain ⟨a, h, hb, _⟩ := hc.some_ (by omega); injection h with h; subst h; exact hb
  have H := Lib.hid (And.intro hl (And.intro hv (And.intro hc (And.intro hp (And.intro h18 (And.intro hn18 (And.intro hnp hadw)))))))
  have hn4 : 1 ≤ n ∧ n ≤ 4 := hp.2
  have hN16 : 2 ≤ N ∧ N ≤ 16 := by omega
  have hmk := make_ints n (by omega)
  clear hl hv hc hp h18 hn18 hlen hnp hadw
  go_enter Try.func6, Try.ntmps6
  go_wp2_with fail
  refine (list_any (some ad) N cap c _ H.out.1 hcp hm H.out.2.2.1).mono ?_
  rintro e w1 ⟨A1, c1, rfl, hown, hb⟩
  rw [H.out.2.2.2.2.2.1] at hown ⊢
  rw [H.out.2.2.2.2.1] at hown
  have hI : Ints w1 A1 c := At.of_own hown
  have H1 := Lib.hid (And.intro hI hb)
  clear hown hI hb
  go_wp2_with fail
  refine (shapley_ok A1 N c1 c _ H.out.1 H1.out.1 H.out.2.1).mono ?_
  rintro e w2 ⟨A2, c2, rfl, hown, hb2⟩
  have hbl2 : Below w.heap.size w w2 := H1.out.2.trans (hb2.mono H1.out.2.size)
  have hF : Fracs w2 A2 (shapL c (plr c)) := At.of_own hown
  rw [← H.out.2.2.2.2.2.2.1] at hF ⊢
  obtain ⟨a2, rfl, ha2, hcx⟩ := hF.some_ (by rw [shapL_length]; omega)
  have H2 := Lib.hid (And.intro hcx (And.intro hbl2 ha2))
  have hwz2 := hbl2.size
  clear hown hF hb2 hbl2 hcx ha2
  go_wp2_with fail
  refine (rplayers_any (some ad) N cap c _ H.out.1 (by omega) (H.out.2.2.1.below H2.out.2.1)).mono ?_
  rintro e w' ⟨rfl, rfl⟩
  rw [← H.out.2.2.2.2.2.2.1]
  have hne : ((n : Int) == 0) = false := by simp; omega
  go_wp2_with fail
  clear hne
  go_loopw [8, 44] (fun ov kv wr => ∃ (k : Nat) (B : Option Addr) (bc : Nat) (vs : List Value), k ≤ n ∧ kv = .int .i64 k ∧ ov = .slice B (lv n k).length bc ∧ (B = none → (lv n k).length = 0) ∧ At wr B vs ∧ Rows wr 0 vs (zs (lv n k)) ∧ RowsLo (w2.heap.size + 1) vs ∧ (∀ ab, B = some ab → w2.heap.size < ab.block) ∧ Blk wr w2.heap.size 3 (arr (List.replicate n 0)) ∧ Below w2.heap.size w2 wr) (fun _ kv _ => n - (intOf kv).toNat)
  case atStart =>
    have hB : Blk ((w2.alloc (.cells (arr (List.replicate n 0)) 3)).alloc (.cells #[.slice none 0 0] 22)) (w2.heap.size + 1) 22 #[.slice none 0 0] := Blk.new _ _ _ (by simp)
    refine ⟨0, _, 1, [.slice none 0 0], Nat.zero_le _, rfl, rfl, (fun h => by cases h), hB.at_, Rows.one_ (w := _) ⟨none, 0, rfl, by simp, by omega, Ints.nil, fun _ h => by cases h⟩, (fun v hv ad n c he => by simp only [List.mem_singleton] at hv; subst hv; injection he with he; cases he), (fun ab h => by injection h with h; subst h; show w2.heap.size < w2.heap.size + 1; omega), (Blk.new _ _ _ rfl).alloc _, ((Below.refl _ _).alloc (Nat.le_refl _) _).alloc (by simp) _⟩
  case round =>
    obtain ⟨k, B, bc, vs, hk, rfl, rfl, hBn, hat, hrows, hlo, hBb, hbS, hbl⟩ := hrel
    have HLO := Lib.hid (And.intro hlo hBb)
    have hSlt := hbS.lt
    clear hlo hBb
    obtain ⟨wo, rfl⟩ : ∃ wo : World, wo = wr := ⟨_, rfl⟩
    have hlv := lv_len n k
    have hlvm := lv_mem (n := n) (k := k)
    have hps := pow_small (n := n) (m := k) hn4.2 (by omega)
    obtain ⟨L, hL⟩ : ∃ L, L = lv n k := ⟨_, rfl⟩
    rw [← hL] at hrows hlv hlvm hBn ⊢
    obtain ⟨q, hq⟩ : ∃ q, q = L.length := ⟨_, rfl⟩
    rw [← hq] at hlv hBn ⊢
    have hq256 : q ≤ 256 := by omega
    have hvl : vs.length = q := by rw [hrows.1, zs_length, hq]
    have hwo := hbl.size
    have HW := Lib.hid (And.intro hat (And.intro hrows (And.intro hbS (And.intro hbl (And.intro hlvm (And.intro hL (And.intro hq (And.intro hvl hBn))))))))
    clear hat hrows hbS hbl hlvm hL hq hlv hps hvl hBn
    by_cases hlk : k < n
    · go_wp2_with fail
      go_loopw [9, 48] (fun nv jv wr => ∃ (j : Nat) (B2 : Option Addr) (k2 : Nat) (vs2 : List Value), j ≤ q ∧ jv = .int .i64 j ∧ nv = .slice B2 (stepL n (L.take j)).length k2 ∧ wr.ownsRow wo.heap.size 22 1 (.slice B2 (stepL n (L.take j)).length k2) (stepL n (L.take j)).length vs2 ∧ Rows wr 0 vs2 (zs (stepL n (L.take j))) ∧ RowsLo (w2.heap.size + 1) vs2 ∧ Below wo.heap.size wo wr) (fun _ jv _ => q - (intOf jv).toNat)
      case atStart => exact ⟨0, none, 0, [], Nat.zero_le _, rfl, rfl, World.ownsRow_nil _ _ _ _, Rows.nil, (fun v hv => by cases hv), Below.refl _ _⟩
      case round =>
        obtain ⟨j, B2, k2, vs2, hj, rfl, rfl, hown2, hrows2, hlo2, hbl2⟩ := hrel
        have HLO2 := Lib.hid hlo2
        clear hlo2
        obtain ⟨wp, rfl⟩ : ∃ wp : World, wp = wr := ⟨_, rfl⟩
        have hsl := stepL_len n (L.take j)
        have hsl2 : (stepL n (L.take j)).length ≤ 1024 := by
          have h1 : (L.take j).length ≤ 256 := by rw [List.length_take]; have := HW.out.2.2.2.2.2.2.1; omega
          exact Nat.le_trans hsl (Nat.le_trans (Nat.mul_le_mul h1 hn4.2) (by omega))
        obtain ⟨M, hM⟩ : ∃ M, M = stepL n (L.take j) := ⟨_, rfl⟩
        rw [← hM] at hown2 hrows2 hsl2 ⊢
        have hwp := hbl2.size
        have H3 := Lib.hid (And.intro hown2 (And.intro hrows2 (And.intro hbl2 hM)))
        clear hown2 hrows2 hbl2 hM hsl
        by_cases hlj : j < q
        · obtain ⟨hat, hrows, hbS, hbl, hlvm, hL, hq, hvl, hBn⟩ := HW.out
          obtain ⟨o, ho⟩ : ∃ o, L[j]? = some o := ⟨_, List.getElem?_eq_getElem (by omega)⟩
          obtain ⟨A3, c3, hv3, h31, h32, hI3⟩ := hrows.at ho (Below.refl _ _)
          have hol := hlvm o (List.mem_of_getElem? ho)
          obtain ⟨ab, hBs, hcell0⟩ := hat j _ hv3
          subst hBs
          have hcj := (H3.out.2.2.1.cell (lt_of_cell hcell0)).trans hcell0
          rw [hol.1] at hcj h31
          have hko : o.length = k := hol.1
          have hon := hol.2
          have HO := Lib.hid (And.intro hI3 (And.intro hko (And.intro ho hon)))
          have hk4 : k ≤ 4 := by omega
          clear hat hrows hbS hbl hlvm hL hq hvl hBn ho hI3 hol hko hv3 hcell0 hon
          go_wp2_with fail
          go_loopw [9, 53] (fun nv iv wr => ∃ (i : Nat) (B4 : Option Addr) (k4 : Nat) (vs4 : List Value), i ≤ n ∧ iv = .int .i64 i ∧ nv = .slice B4 (M ++ stepTo o i).length k4 ∧ wr.ownsRow wo.heap.size 22 1 (.slice B4 (M ++ stepTo o i).length k4) (M ++ stepTo o i).length vs4 ∧ Rows wr 0 vs4 (zs (M ++ stepTo o i)) ∧ RowsLo (w2.heap.size + 1) vs4 ∧ Below wo.heap.size wo wr) (fun _ iv _ => n - (intOf iv).toNat)
          case atStart => exact ⟨0, B2, k2, vs2, Nat.zero_le _, rfl, by simp [stepTo], by simpa [stepTo] using H3.out.1, by simpa [stepTo] using H3.out.2.1, HLO2.out, H3.out.2.2.1⟩
          case round =>
            obtain ⟨i, B4, k4, vs4, hi, rfl, rfl, hown4, hrows4, hlo4, hbl4⟩ := hrel
            have HLO4 := Lib.hid hlo4
            clear hlo4
            have hsl4 := stepTo_len o i
            have hm4 : (M ++ stepTo o i).length ≤ 1028 := by rw [List.length_append]; omega
            obtain ⟨M4, hM4⟩ : ∃ M4, M4 = M ++ stepTo o i := ⟨_, rfl⟩
            rw [← hM4] at hown4 hrows4 hm4 ⊢
            obtain ⟨m4, hm4e⟩ : ∃ m, m = M4.length := ⟨_, rfl⟩
            rw [← hm4e] at hown4 hm4 ⊢
            have hwr := hbl4.size
            have H5 := Lib.hid (And.intro hown4 (And.intro hrows4 (And.intro hbl4 (And.intro hM4 hm4e))))
            clear hown4 hrows4 hbl4 hM4 hm4e hsl4
            by_cases hlt : i < n
            · go_wp2_with fail
              refine (contains_any A3 k c3 (o.map Int.ofNat) i _ (by rw [List.length_map]; exact HO.out.2.1) (by omega) (HO.out.1.below H5.out.2.2.1)).mono ?_
              rintro e w' ⟨rfl, rfl⟩
              rw [mem_nats]
              by_cases hmem : i ∈ o
              · have hd : decide (i ∈ o) = true := decide_eq_true hmem
                have HE : Hid (M ++ stepTo o (i + 1) = M4) := Lib.hid (by rw [stepTo_succ, if_pos hmem, List.append_nil, H5.out.2.2.2.1])
                rw [hd]
                clear hd hmem
                go_wp2_with fail
                go_roundw
                case rel => exact ⟨i + 1, B4, k4, vs4, by omega, by go_num, by rw [HE.out, H5.out.2.2.2.2], by rw [HE.out, ← H5.out.2.2.2.2]; exact H5.out.1, by rw [HE.out]; exact H5.out.2.1, HLO4.out, H5.out.2.2.1⟩
                case measure => simp [intOf]; omega
              · have hd : decide (i ∈ o) = false := decide_eq_false hmem
                have HE : Hid (M ++ stepTo o (i + 1) = M4 ++ [o ++ [i]]) := Lib.hid (by rw [stepTo_succ, if_neg hmem, H5.out.2.2.2.1, List.append_assoc])
                rw [hd]
                clear hd hmem
                go_wp2_with fail
                refine (clone_any A3 k c3 (o.map Int.ofNat) _ (by rw [List.length_map]; exact HO.out.2.1) (by omega) (HO.out.1.below H5.out.2.2.1)).mono ?_
                rintro e w6 ⟨A6, c6, rfl, hown6, hb6⟩
                have H6 := Lib.hid (And.intro hown6 hb6)
                have hw6 := hb6.size
                clear hown6 hb6
                go_wp2_with (at_builtin; refine app1 sty_int rfl _ _ rfl wr.heap.size A6 k c6 _ #[.int .i64 (i : Int)] rfl (by simp [Value.oneCell']) rfl H6.out.1 rfl (by omega) hw6 ?_)
                intro A7 k7 w7 hown7 _ hbl7 hk71 hk72
                have hown7' : w7.ownsRow wr.heap.size 3 1 (.slice A7 (k + 1) k7) (k + 1) (((o ++ [i]).map Int.ofNat).map (Value.int .i64)) := by
                  rw [← nats_ints, nats_snoc, nats_ints]; simpa using hown7
                have hbw7 : Below wr.heap.size wr w7 := H6.out.2.trans hbl7
                have hown47 := own_below H5.out.1 hbw7
                have hrows47 := H5.out.2.1.below hbw7
                have hw7 := hbw7.size
                have HLO7 : Hid (∀ ad n c, (Value.slice A7 (k + 1) k7) = .slice (some ad) n c → w2.heap.size + 1 ≤ ad.block) := Lib.hid fun ad n c he => by
                  injection he with e1 e2 e3
                  obtain ⟨g, hg, hg2, _⟩ := own_some hown7' (by omega)
                  rw [e1] at hg
                  injection hg with hg
                  rw [hg]
                  show w2.heap.size + 1 ≤ g
                  omega
                have H7 := Lib.hid (And.intro (Row1.of_own hown7' 0) (And.intro hbw7 (And.intro hown47 hrows47)))
                clear hown7 hown7' hbl7 hbw7 hown47 hrows47
                go_wp2_with (at_builtin; refine app1 sty_intss rfl _ _ rfl wo.heap.size B4 m4 k4 _ #[.slice A7 (k + 1) k7] rfl (by simp [Value.oneCell']) rfl H7.out.2.2.1 rfl (by omega) (by omega) ?_)
                intro A8 k8 w8 hown8 hg8 hbl8 hk81 hk82
                have hrows8 : Rows w8 0 (vs4 ++ [.slice A7 (k + 1) k7]) (zs (M ++ stepTo o (i + 1))) := by
                  rw [HE.out, zs_append]
                  exact (H7.out.2.2.2.grown H7.out.2.2.1 (Nat.zero_le _) hg8).append (Rows.one_ (H7.out.1.grown H7.out.2.2.1 (Nat.zero_le _) hg8))
                have hlen8 : (M ++ stepTo o (i + 1)).length = m4 + 1 := by rw [HE.out, List.length_append, H5.out.2.2.2.2]; rfl
                have H8 := Lib.hid (And.intro hown8 (And.intro hrows8 (And.intro ((H5.out.2.2.1.trans (H7.out.2.1.mono hwr)).trans hbl8) hlen8)))
                clear hown8 hg8 hbl8 hrows8 hlen8
                go_wp2_with fail
                go_roundw
                case rel => exact ⟨i + 1, A8, k8, _, by omega, by go_num, by rw [H8.out.2.2.2], by rw [H8.out.2.2.2]; exact H8.out.1, H8.out.2.1, (fun v hv => (List.mem_append.1 hv).elim (HLO4.out v) (fun h => by simp only [List.mem_singleton] at h; subst h; exact HLO7.out)), H8.out.2.2.1⟩
                case measure => simp [intOf]; omega
            · obtain rfl : i = n := by omega
              have HE : Hid (stepL i (L.take (j + 1)) = M4) := Lib.hid (by rw [stepL_take HO.out.2.2.1, ← H3.out.2.2.2, H5.out.2.2.2.1])
              go_wp2_with fail
              go_roundw
              case rel => exact ⟨j + 1, B4, k4, vs4, by omega, by go_num, by rw [HE.out, H5.out.2.2.2.2], by rw [HE.out, ← H5.out.2.2.2.2]; exact H5.out.1, by rw [HE.out]; exact H5.out.2.1, HLO4.out, H5.out.2.2.1⟩
              case measure => simp [intOf]; omega
        · obtain rfl : j = q := by omega
          have HE : Hid (lv n (k + 1) = M) := Lib.hid (by
            obtain ⟨hat, hrows, hbS, hbl, hlvm, hL, hq, hvl, hBn⟩ := HW.out
            rw [lv_succ, ← hL, H3.out.2.2.2, List.take_of_length_le (by omega)])
          have hB0 : B2 = none → M.length = 0 := by
            obtain ⟨_, _, he, _, _, h⟩ := own_form H3.out.1
            injection he with e1 e2 e3
            subst e1
            intro hn
            exact (h hn).1
          have hBb : ∀ ab, B2 = some ab → w2.heap.size < ab.block := by
            intro ab hab
            rcases H3.out.1.2 with ⟨h, _⟩ | ⟨g, cap, cur, hv, hg, _⟩
            · rw [hab] at h; cases h
            · injection hv with h1
              rw [hab] at h1
              injection h1 with h1
              rw [h1]
              show w2.heap.size < g
              omega
          have HB0 := Lib.hid hB0
          have HBb := Lib.hid hBb
          clear hB0 hBb
          go_wp2_with fail
          go_roundw
          case rel => exact ⟨k + 1, B2, k2, vs2, by omega, by go_num, by rw [HE.out], by rw [HE.out]; exact HB0.out, At.of_own H3.out.1, by rw [HE.out]; exact H3.out.2.1, HLO2.out, HBb.out, HW.out.2.2.1.below H3.out.2.2.1 HW.out.2.2.1.lt, HW.out.2.2.2.1.trans (H3.out.2.2.1.mono hwo)⟩
          case measure => simp [intOf]; omega
    · obtain rfl : n = k := by omega
      have hLe : L = ext n n [] := by rw [HW.out.2.2.2.2.2.1, lv_ext]
      have hel := ext_len hn4.2
      have hq1 : 1 ≤ q ∧ q ≤ 24 := by have := HW.out.2.2.2.2.2.2.1; rw [hLe] at this; omega
      obtain ⟨ab, rfl⟩ : ∃ ab, B = some ab := by
        cases B with
        | none => have := HW.out.2.2.2.2.2.2.2.2 rfl; omega
        | some ab => exact ⟨ab, rfl⟩
      have HLE := Lib.hid hLe
      have hsd := sums_bd (valC_iff.1 H.out.2.1).2.2 hn4.2
      have hH := H.out.2.2.2.2.2.2.2
      clear hLe hel
      go_wp2_with fail
      go_loopw [7, 74] (fun cv jv wr => ∃ j : Nat, j ≤ q ∧ jv = .int .i64 j ∧ cv = .int .i64 j ∧ Blk wr w2.heap.size 3 (arr (addAll c n (List.replicate n 0) (L.take j))) ∧ Kept wo.heap.size [w2.heap.size] wo wr) (fun _ jv _ => q - (intOf jv).toNat)
      case atStart => exact ⟨0, Nat.zero_le _, rfl, rfl, HW.out.2.2.1, Kept.refl _ _ _⟩
      case round =>
        obtain ⟨j, hj, rfl, rfl, hbS, hK⟩ := hrel
        obtain ⟨wp, rfl⟩ : ∃ wp : World, wp = wr := ⟨_, rfl⟩
        have hcc : Ints wp (some ad) c := by
          refine (H.out.2.2.1.below (H2.out.2.1.trans (HW.out.2.2.2.1.mono hwz2))).kept_ hK (Nat.le_refl _) ?_
          intro a ha
          injection ha with ha
          subst ha
          simp
          omega
        have hbw : Below w.heap.size w wp := (H2.out.2.1.trans (HW.out.2.2.2.1.mono hwz2)).trans (hK.mono (B' := w.heap.size) (S' := []) (by omega) (by simp; omega)).below
        have hwpz := hK.size
        by_cases hlj : j < q
        · obtain ⟨o, ho⟩ : ∃ o, L[j]? = some o := ⟨_, List.getElem?_eq_getElem (by have := HW.out.2.2.2.2.2.2.1; omega)⟩
          have hom : o ∈ ext n n [] := by rw [← HLE.out]; exact List.mem_of_getElem? ho
          obtain ⟨v, hvj, hrow⟩ := HW.out.2.1.2 j _ (zs_get ho)
          obtain ⟨A3, c3, rfl, h31, h32, hI3⟩ := hrow.kept hK (Nat.le_refl _) (HLO.out.1 _ (List.mem_of_getElem? hvj)) (by simp)
          have hol : (o.map Int.ofNat).length = n := by rw [List.length_map]; exact (HW.out.2.2.2.2.1 o (List.mem_of_getElem? ho)).1
          rw [hol] at h31 hvj
          have hcell0 := (HW.out.1.some2) j _ hvj
          have hcj := (hK.cell (lt_of_cell hcell0) (by rw [add_block]; have := HLO.out.2 ab rfl; simp; omega)).trans hcell0
          have HS : Hid (L.take (j + 1) = L.take j ++ [o]) := Lib.hid (by rw [List.take_add_one, ho]; rfl)
          have hfa := ext_facts hn4.1 hn4.2 o hom
          have hsum := joinL_sum (c := c) hn4.1 hn4.2 (by
            have h0 := (valC_iff.1 H.out.2.1).2.1
            have : c.getD 0 0 = c.getD 0 1 := by rw [List.getD_eq_getElem?_getD, List.getD_eq_getElem?_getD, List.getElem?_eq_getElem (by have := H.out.1; omega)]; rfl
            omega) hom
          have hon := (HW.out.2.2.2.2.1 o (List.mem_of_getElem? ho)).2
          have H3 := Lib.hid (And.intro hcc (And.intro hbw (And.intro hbS (And.intro hK (And.intro hI3 (And.intro hol (And.intro hfa.2.2 (And.intro hsum hon))))))))
          clear hcc hbw hbS hK hI3 hol hfa hsum hon hvj hrow ho hom hcell0
          go_wp2_with fail
          refine (list_any (some ad) N cap c _ H.out.1 hcp hm H3.out.1).mono ?_
          rintro e w5 ⟨A5, c5, rfl, hown, hb5⟩
          rw [H.out.2.2.2.2.2.1] at hown ⊢
          rw [H.out.2.2.2.2.1] at hown
          have hI : Ints w5 A5 c := At.of_own hown
          obtain ⟨a5, rfl, _, _⟩ := hI.some_ (by have := H.out.1; omega)
          have H5 := Lib.hid (And.intro hI hb5)
          clear hown hI hb5
          go_wp2_with fail
          refine (gjoin_ok a5 N c5 A3 n c3 c (o.map Int.ofNat) _ H.out.1 H.out.2.1 H3.out.2.2.2.2.2.1 (by omega) H5.out.1 (H3.out.2.2.2.2.1.below H5.out.2) (by rw [← H.out.2.2.2.2.2.2.1]; exact H3.out.2.2.2.2.2.2.1)).mono ?_
          rintro e w6 ⟨g, rfl, hg, hJ, hb6⟩
          rw [← H.out.2.2.2.2.2.2.1, joinZ_nats] at *
          obtain ⟨js, hjs⟩ : ∃ js, js = joinL c o := ⟨_, rfl⟩
          have hjl : js.length = n := by
            have := (joinP_bd c n o H3.out.2.2.2.2.2.2.2.2).2
            have ho2 : o.length = n := by have := H3.out.2.2.2.2.2.1; simpa using this
            rw [hjs, joinL, ho2]; exact this
          have hjb : ∀ y ∈ js, -1000 ≤ y ∧ y ≤ 1000 := by rw [hjs]; exact joinL_bd (valC_iff.1 H.out.2.1).2.2 o
          rw [← hjs] at hJ
          have hbw6 : Below wp.heap.size wp w6 := H5.out.2.trans (hb6.mono H5.out.2.size)
          obtain ⟨sums, hsums⟩ : ∃ s, s = addAll c n (List.replicate n 0) (L.take j) := ⟨_, rfl⟩
          have hbS6 : Blk w6 w2.heap.size 3 (arr sums) := by rw [hsums]; exact H3.out.2.2.1.below hbw6 H3.out.2.2.1.lt
          have hsl : sums.length = n := by rw [hsums, addAll_length]; simp
          have hsb : ∀ y ∈ sums, -30000 ≤ y ∧ y ≤ 30000 := by
            intro y hy
            rw [hsums] at hy
            have := addAll_bd (valC_iff.1 H.out.2.1).2.2 n (L.take j) (List.replicate n 0) 0 (by omega) (by intro z hz; rw [List.mem_replicate] at hz; omega) y hy
            have h2 : (L.take j).length ≤ 24 := by rw [List.length_take]; omega
            omega
          have hgS : w2.heap.size < g := by have := H5.out.2.size; omega
          have hw6 := hbw6.size
          have hS6 : w2.heap.size < w6.heap.size := by omega
          have H6 := Lib.hid (And.intro hJ (And.intro hjl (And.intro hjb (And.intro hjs (And.intro hbS6 (And.intro hsl (And.intro hsb (And.intro hsums hbw6))))))))
          clear hJ hjl hjb hjs hbS6 hsl hsb hsums hbw6 hb6
          go_wp2_with fail
          go_loopw [17, 95] (fun av iv wr => ∃ i : Nat, i ≤ n ∧ iv = .int .i64 i ∧ av = .int .i64 (js.take i).sum ∧ Blk wr w2.heap.size 3 (arr (addUp sums js i)) ∧ Kept w6.heap.size [w2.heap.size] w6 wr) (fun _ iv _ => n - (intOf iv).toNat)
          case atStart => exact ⟨0, Nat.zero_le _, rfl, by simp, H6.out.2.2.2.2.1, Kept.refl _ _ _⟩
          case round =>
            obtain ⟨i, hi, rfl, rfl, bS, hK6⟩ := hrel
            by_cases hlt : i < n
            · have hul : i < (addUp sums js i).length := by rw [addUp_length, H6.out.2.2.2.2.2.1]; exact hlt
              obtain ⟨x, hx⟩ : ∃ x, js[i]? = some x := ⟨_, List.getElem?_eq_getElem (by rw [H6.out.2.1]; exact hlt)⟩
              obtain ⟨z, hz⟩ : ∃ x, (addUp sums js i)[i]? = some x := ⟨_, List.getElem?_eq_getElem hul⟩
              have hxb := H6.out.2.2.1 x (List.mem_of_getElem? hx)
              have hzb := addUp_bd H6.out.2.2.2.2.2.2.1 H6.out.2.2.1 (by omega) i z (List.mem_of_getElem? hz)
              have htb := take_sum_bd H6.out.2.2.1 i
              obtain ⟨t, ht⟩ : ∃ t, t = (js.take i).sum := ⟨_, rfl⟩
              rw [← ht] at htb ⊢
              have hT : Hid ((js.take (i + 1)).sum = t + x) := Lib.hid (by rw [take_sum_succ hx, ht])
              have bJ := H6.out.1.kept hK6 H6.out.1.lt (by simp; omega)
              have c1 : wr.cell? ⟨g, i, none⟩ = some (.int .i64 x) := by rw [bJ.cell, arr_get, hx]; rfl
              have c2 : wr.cell? ⟨w2.heap.size, i, none⟩ = some (.int .i64 z) := by rw [bS.cell, arr_get, hz]; rfl
              have f2 : wr.frozen? ⟨w2.heap.size, i, none⟩ = false := bS.frozen i
              have HNEW : Hid (addUp sums js (i + 1) = (addUp sums js i).set i (z + x)) := Lib.hid (by
                rw [addUp, List.getD_eq_getElem?_getD, List.getD_eq_getElem?_getD, hz, hx]; rfl)
              have H7 := Lib.hid (And.intro bS hK6)
              clear bS hK6 bJ hx hz hul ht
              go_wp2
              go_roundw
              case rel =>
                obtain ⟨bS, hK6⟩ := H7.out
                refine ⟨i + 1, by omega, by go_num, by rw [hT.out], ?_, hK6.setCell (.inl (by simp)) _⟩
                rw [HNEW.out, ← arr_set]
                exact bS.set_ i _
              case measure => simp [intOf]; omega
            · obtain rfl : n = i := by omega
              obtain ⟨n1, hn1⟩ : ∃ n1, n1 + 1 = N := ⟨N - 1, by omega⟩
              obtain ⟨x, hx⟩ : ∃ x, c[n1]? = some x := ⟨_, List.getElem?_eq_getElem (by have := H.out.1; omega)⟩
              have hfull : js.take n = js := List.take_of_length_le (by have := H6.out.2.1; omega)
              have hpw := H.out.2.2.2.1.1
              have hsx : (js.take n).sum = x := by
                rw [hfull, H6.out.2.2.2.1, H3.out.2.2.2.2.2.2.2.1, ← hpw, H.out.1, List.getD_eq_getElem?_getD, show N - 1 = n1 from by omega, hx]; rfl
              rw [hsx]
              have hxc := (valC_iff.1 H.out.2.1).2.2 x (List.mem_of_getElem? hx)
              have hcw6 := (H3.out.1.below H6.out.2.2.2.2.2.2.2.2).some2 n1 (.int .i64 x) (by simp [hx])
              have hcwr := (hK6.cell (lt_of_cell hcw6) (by rw [add_block]; simp; omega)).trans hcw6
              have e1 : IntKind.i64.wrap ((N : Int) - 1) = (n1 : Int) := by rw [IntWalk.i64_in _ (by omega)]; omega
              have e2 : (N : Int) - 1 = (n1 : Int) := by omega
              have l1 : (n1 : Int) < (N : Int) := by omega
              have H7 := Lib.hid (And.intro bS hK6)
              clear bS hK6 hfull hpw hsx hx hcw6 hn1
              go_wp2_with fail
              go_roundw
              case rel =>
                refine ⟨j + 1, by omega, by go_num, by go_num, ?_, (H3.out.2.2.2.1.trans ((Kept.of_below H6.out.2.2.2.2.2.2.2.2 [w2.heap.size]).mono hwpz (by simp))).trans (H7.out.2.mono (by omega) (by simp))⟩
                rw [HS.out, addAll_append, ← H6.out.2.2.2.2.2.2.2.1]
                show Blk _ _ _ (arr (addUp sums (joinL c o) n))
                rw [← H6.out.2.2.2.1]
                exact H7.out.1
              case measure => simp [intOf]; omega
        · obtain rfl : q = j := by omega
          have hfull : L.take q = L := List.take_of_length_le (by have := HW.out.2.2.2.2.2.2.1; omega)
          rw [hfull] at hbS
          have hss : addAll c n (List.replicate n 0) L = sumsL c n := by rw [HLE.out]; rfl
          rw [hss] at hbS
          have hcn : (ext n n []).length = q := by have := HW.out.2.2.2.2.2.2.1; rw [HLE.out] at this; exact this.symm
          have hcxp : ∀ i r, (shapL c n)[i]? = some r → wp.cell? (a2.add (i * 2)) = some (.int .i64 r.num) ∧ wp.cell? ⟨(a2.add (i * 2)).block, (a2.add (i * 2)).off + 1, none⟩ = some (.int .i64 (r.den : Int)) := fun i r hr => by
            obtain ⟨h1, h2⟩ := H2.out.1 i r hr
            have a := H2.out.2.2
            have b1 := (HW.out.2.2.2.1.cell (lt_of_cell h1)).trans h1
            have b2 := (HW.out.2.2.2.1.cell (lt_of_cell h2)).trans h2
            exact ⟨(hK.cell (lt_of_cell b1) (by rw [add_block]; simp; omega)).trans b1, (hK.cell (lt_of_cell b2) (by show (a2.add (i * 2)).block ∉ _; rw [add_block]; simp; omega)).trans b2⟩
          have H6 := Lib.hid (And.intro hbS (And.intro hbw (And.intro hcn hcxp)))
          clear hfull hss hbS hbw hcn hK hcc hcxp
          go_wp2_with fail
          go_loopw [123] (fun iv wr => ∃ i : Nat, i ≤ n ∧ iv = .int .i64 i ∧ Below wp.heap.size wp wr) (fun iv _ => n - (intOf iv).toNat)
          case atStart => exact ⟨0, Nat.zero_le _, rfl, Below.refl _ _⟩
          case round =>
            obtain ⟨i, hi, rfl, hbl⟩ := hrel
            by_cases hlt : i < n
            · have hsl : (sumsL c n).length = n := by unfold sumsL; rw [addAll_length]; simp
              obtain ⟨x, hx⟩ : ∃ x, (sumsL c n)[i]? = some x := ⟨_, List.getElem?_eq_getElem (by rw [hsl]; exact hlt)⟩
              have hxb := hsd x (List.mem_of_getElem? hx)
              have hr : (shapL c n)[i]? = some (Rat.divInt x q) := by unfold shapL; rw [List.getElem?_map, hx, H6.out.2.2.1]; rfl
              obtain ⟨f1, f2⟩ := H6.out.2.2.2 i _ hr
              have g1 : wp.cell? ⟨w2.heap.size, i, none⟩ = some (.int .i64 x) := by rw [H6.out.1.cell, arr_get, hx]; rfl
              generalize hQ : Rat.divInt x (q : Int) = r at f1 f2 hr
              have d1 : ∀ s : Desc wr, s.val.cell? (a2.add (i * 2)) = some (.int .i64 r.num) := fun s => s.cell ((hbl.cell (lt_of_cell f1)).trans f1)
              have d2 : ∀ s : Desc wr, s.val.cell? ⟨(a2.add (i * 2)).block, (a2.add (i * 2)).off + 1, none⟩ = some (.int .i64 (r.den : Int)) := fun s => s.cell ((hbl.cell (lt_of_cell f2)).trans f2)
              have d3 : ∀ s : Desc wr, s.val.cell? ⟨w2.heap.size, i, none⟩ = some (.int .i64 x) := fun s => s.cell ((hbl.cell (lt_of_cell g1)).trans g1)
              have l3 : (i : Int) < (n : Int) := by omega
              have l4 : (0 : Int) ≤ (i : Int) := by omega
              have HOF : Hid (∀ s : Desc wr, Calls Try.prog 36 #[.int .i64 x, .int .i64 q] s.val fun e w'' => e = .returned (.agg #[.int .i64 r.num, .int .i64 (r.den : Int)]) ∧ ∃ s' : Desc wr, w'' = s'.val) := Lib.hid fun s =>
                Calls.desc_of ((rof_any x q _ (by omega) (by omega) (by omega) (by omega)).mono fun e w' h => ⟨by rw [h.1, hQ]; rfl, h.2⟩)
              have HB := Lib.hid hbl
              have hws := hbl.size
              clear hbl hx hr f1 f2 g1 hQ hsl
              go_wp2_with fail
              refine wp_region_desc (by kernel_rfl) (by kernel_rfl) ?_
              repeat (go_big_quiet_step ((go_at_call 36; exact HOF.out _)))
              refine wpQuiet_nil ?_
              rintro _ ⟨sd, rfl⟩
              have HBE := Lib.hid (HB.out.trans (sd.below.mono hws))
              clear d1 d2 d3
              go_wp2_with fail
              go_roundw
              case rel => exact ⟨i + 1, by omega, by go_num, HBE.out⟩
              case measure => simp [intOf]; omega
            · obtain rfl : n = i := by omega
              have HB := Lib.hid (H6.out.2.1.trans (hbl.mono (by omega)))
              clear hbl
              go_wp2_with fail
              refine (awake_any _).mono ?_
              rintro e w9 ⟨rfl, hb9⟩
              have HB9 := Lib.hid (HB.out.trans (hb9.mono HB.out.size))
              clear hb9
              go_wp2_with fail
              go_ret
              exact ⟨rfl, HB9.out⟩

theorem law_average_row (A : Option Addr) (n cap : Nat) (c : List Int) (w : World) (hl : c.length = n) (hcp : n ≤ cap) (hm : cap ≤ 9223372036854775807) (hc : Ints w A c) (_ : ∀ x ∈ c, -9223372036854775808 ≤ x ∧ x ≤ 9223372036854775807) :
    Calls Try.prog 6 #[.slice A n cap] w fun e w' => e = .returned (.bool true) ∧ Below w.heap.size w w' := by
  cases hv : valC c
  · exact average_bad A n cap c w hl hcp hm hv hc
  · obtain ⟨ad, rfl, _, _⟩ := hc.some_ (by have := (valC_iff.1 hv).1; omega)
    exact average_ok ad n cap c w hl hcp hm hv hc
end Go.Proofs.Ytbidboagaoifaaa
