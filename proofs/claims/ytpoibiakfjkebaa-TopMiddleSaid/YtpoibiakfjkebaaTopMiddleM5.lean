/- Laws and contracts that the proof of TopMiddle uses, part 5. -/
import Derived.Test.YtpoibiakfjkebaaVAxis
import Derived.Test.YtpoibiakfjkebaaProg
import Derived.Test.YtpoibiakfjkebaaTopMiddleM1
import Derived.Test.YtpoibiakfjkebaaTopMiddleM2
import Derived.Test.YtpoibiakfjkebaaTopMiddleM4
namespace Go.Proofs.Ytpoibiakfjkebaa
open Go.RowKit

/- Contracts: Axis and Kemeny of package vote. -/

/-- What Axis leaves. -/
def AxPost (V : List (List Int)) (w : World) (e : Ending) (w' : World) : Prop :=
  Below w.heap.size w w' ∧ (e = .returned (.tuple #[.slice none 0 0, .int .i64 2]) ∨ e = .returned (.tuple #[.slice none 0 0, .int .i64 4]) ∨
    ∃ k B gc c1 po, valB V = true ∧ Blts V k B ∧ e = .returned (.tuple #[.slice (some ⟨gc, 0, none⟩) k c1, .int .i64 0]) ∧ Ints w' (some ⟨gc, 0, none⟩) (intL po) ∧ Mid.Odr k po ∧ (∀ b ∈ B, Mid.bendB po b = false) ∧ k ≤ c1 ∧ c1 ≤ 9223372036854775807)

set_option maxRecDepth 100000 in
set_option maxHeartbeats 1600000 in
theorem vaxis0_any (A : Option Addr) (n cap : Nat) (V : List (List Int)) (w : World) (hl : V.length = n) (hn : n ≤ 9223372036854775807) (hV : Mat w A V) :
    Calls Try.prog 4 #[.slice A n cap] w (AxPost V w) := by
  have qT : ∀ (w : World) (a : Option Addr) (n c n' c' : Nat), (binOp .eql 23 (.slice a n c) (.slice none n' c')).run Try.prog w = .ok (.bool a.isNone) w := fun w a n c n' c' => Lib.run_eql_slice_nil w _ _ a n c n' c' Try.underlying23
  have HV := Lib.hid (vvalid_any A n cap V w hl hn hV)
  have H := Lib.hid (And.intro hl hV)
  cases hv : valB V with
  | false =>
    rw [hv] at HV
    clear hl hV hv
    go_enter Try.func4, Try.ntmps4
    go_wp2_with fail
    refine HV.out.mono ?_
    rintro e w1 ⟨rfl, hb⟩
    have HB := Lib.hid hb
    clear hb
    go_wp2_with fail
    go_ret2
    exact ⟨HB.out, .inl rfl⟩
  | true =>
    rw [hv] at HV
    obtain ⟨k, B, hk, hB⟩ := valB_blts hv
    have hn9 : 1 ≤ n ∧ n ≤ 9 := by have := hB.hB; have := hB.len; omega
    have hk5 := hB.hn
    have HBL := Lib.hid (And.intro hB hk)
    have HVB := Lib.hid hv
    clear hl hV hv hB hk
    go_enter Try.func4, Try.ntmps4
    go_wp2_with fail
    refine HV.out.mono ?_
    rintro e w1 ⟨rfl, hb1⟩
    have H1 := Lib.hid (And.intro hb1 (H.out.2.below hb1))
    clear hb1
    go_wp2_with fail
    refine (vnames_any A n cap k V _ H.out.1 hn9.1 (by omega) HBL.out.2 (by omega) H1.out.2).mono ?_
    rintro e w' ⟨rfl, rfl⟩
    go_wp2_with fail
    refine (vupto_any k _ (by omega)).mono ?_
    rintro e w2 ⟨A2, c2, rfl, hown2, hb2⟩
    obtain ⟨gN, rfl, hgN, hgN2⟩ := own_some hown2 (by omega)
    have H2 := Lib.hid (And.intro (At.of_own hown2 : Ints w2 (some ⟨gN, 0, none⟩) (intL (List.range k))) (And.intro (H1.out.1.trans (hb2.mono H1.out.1.size)) (H1.out.2.below hb2)))
    clear hown2 hb2 hgN hgN2
    go_wp2_with fail
    refine (vupto_any n _ (by omega)).mono ?_
    rintro e w3 ⟨A3, c3, rfl, hown3, hb3⟩
    obtain ⟨gV, rfl, hgV, hgV2⟩ := own_some hown3 (by omega)
    have H3 := Lib.hid (And.intro (At.of_own hown3 : Ints w3 (some ⟨gV, 0, none⟩) (intL (List.range n))) (And.intro (H2.out.1.below hb3) (And.intro (H2.out.2.1.trans (hb3.mono H2.out.2.1.size)) (H2.out.2.2.below hb3))))
    clear hown3 hb3 hgV hgV2
    go_wp2_with fail
    refine (vaxis_any A n cap k gN c2 gV c3 V B _ HBL.out.1 H.out.1 H3.out.2.2.2 H3.out.2.1 H3.out.1).mono ?_
    rintro e w4 ⟨hb4, rfl | ⟨gc, c1, po, rfl, hI, hodr, hno, hc1, hc2⟩⟩
    · have H4 := Lib.hid (H3.out.2.2.1.trans (hb4.mono H3.out.2.2.1.size))
      clear hb4
      go_wp2_with fail
      go_ret2
      exact ⟨H4.out, .inr (.inl rfl)⟩
    · have H4 := Lib.hid (And.intro (H3.out.2.2.1.trans (hb4.mono H3.out.2.2.1.size)) (And.intro hI (And.intro hodr hno)))
      clear hb4 hI hodr hno
      go_wp2_with fail
      go_ret2
      exact ⟨H4.out.1, .inr (.inr ⟨k, B, gc, c1, po, HVB.out, HBL.out.1, rfl, H4.out.2.1, H4.out.2.2.1, H4.out.2.2.2, hc1, hc2⟩)⟩

theorem blts_valB {V : List (List Int)} {k : Nat} {B : List (List Nat)} (h : Blts V k B) (hv : V.all (ordV k) = true) : valB V = true := by
  have hl := h.len
  have hB := h.hB
  have hn := h.hn
  unfold valB
  rw [h.row0, hv]
  simp; omega

set_option maxHeartbeats 1600000 in
/-- Kemeny, at valid ballots. -/
theorem vkemeny0_any (A : Option Addr) (n cap k : Nat) (V : List (List Int)) (B : List (List Nat)) (w : World) (hv : valB V = true) (hB : Blts V k B) (hl : V.length = n) (hV : Mat w A V) :
    Calls Try.prog 12 #[.slice A n cap] w fun e w' => ∃ gc c best least, e = .returned (.tuple #[.slice (some ⟨gc, 0, none⟩) k c, .int .i64 ((least : Nat) : Int), .int .i64 0]) ∧ Mid.kemTo B (Mid.allO k) = some (best, least) ∧ Ints w' (some ⟨gc, 0, none⟩) (intL best) ∧ k ≤ c ∧ c ≤ 9223372036854775807 ∧ Below w.heap.size w w' := by
  have hn9 : n ≤ 9 := by have := hB.hB; have := hB.len; omega
  have HV := Lib.hid (vvalid_any A n cap V w hl (by omega) hV)
  rw [hv] at HV
  have H := Lib.hid (And.intro hl (And.intro hV hB))
  clear hl hV hB hv
  go_enter Try.func12, Try.ntmps12
  go_wp2_with fail
  refine HV.out.mono ?_
  rintro e w1 ⟨rfl, hb1⟩
  have H1 := Lib.hid (And.intro hb1 (H.out.2.1.below hb1))
  clear hb1
  go_wp2_with fail
  refine (vkemeny_any A n cap k V B _ H.out.2.2 H.out.1 H1.out.2).mono ?_
  rintro e w2 ⟨gc, c, best, least, rfl, hs, hI, hc1, hc2, hb2⟩
  have H2 := Lib.hid (And.intro hs (And.intro hI (H1.out.1.trans (hb2.mono H1.out.1.size))))
  clear hs hI hb2
  go_wp2_with fail
  go_ret3
  exact ⟨gc, c, best, least, rfl, H2.out.1, H2.out.2.1, hc1, hc2, H2.out.2.2⟩

/- make([]int, n) in this seat's program. -/
theorem info_int0 : (Try.prog.info? 3).map (fun i => (i.zero, i.size, i.bytes)) = some (some (.int .i64 0), 1, 8) := by kernel_rfl
/-- make([]int, n). -/
theorem make_ints (n : Nat) (hn : n ≤ 1000000) (w : World) : (Instr.makeSlice 23 (.int .i64 n) (.int .i64 n)).run Try.prog w = .ok (.slice (some ⟨w.heap.size, 0, none⟩) n n) (w.alloc (.cells (arr (List.replicate n 0)) 3)) := by
  obtain ⟨i0, hi, hz0, hz1, hz2⟩ := info_parts info_int0
  have hr := run_make (P := Try.prog) w 23 3 i0 (.int .i64 0) Try.underlying23 hi hz0 .i64 .i64 n n (by omega) (by omega) (by rw [hz2]; omega) (by omega)
  simp only [Int.toNat_natCast, hz1] at hr
  rw [hr, arr_zeros]


/- Contracts of slices.Min and slices.Max over ints. -/

set_option maxHeartbeats 400000 in
theorem max_any (A : Option Addr) (n cap : Nat) (xs : List Int) (w : World) (hl : xs.length = n) (hp : 0 < n) (hm : n ≤ 9223372036854775807) (h : Ints w A xs) :
    Calls Try.prog 65 #[.slice A n cap] w fun e w' => e = .returned (.int .i64 (lmax xs)) ∧ w = w' := by
  obtain ⟨ad, rfl, hb, hc⟩ := h.some_ (by omega)
  obtain ⟨x0, hx0⟩ : ∃ x, xs[0]? = some x := ⟨_, List.getElem?_eq_getElem (by omega)⟩
  have c0 : w.cell? ad = some (.int .i64 x0) := hc 0 x0 hx0
  have e0 : lmax (xs.take 1) = x0 := by rw [take_succ' hx0]; simp [lmax]
  have HE := Lib.hid e0
  have HC := Lib.hid hc
  have HL := Lib.hid hl
  have HX0 := Lib.hid hx0
  clear hc hl h hb e0 hx0
  go_enter Try.func65, Try.ntmps65
  go_wp2
  go_loop [3, 4] (fun m i => ∃ k : Nat, 1 ≤ k ∧ k ≤ n ∧ i = .int .i64 k ∧ m = .int .i64 (lmax (xs.take k))) (fun _ i => n - (intOf i).toNat)
  case atStart => exact ⟨1, by omega, by omega, rfl, by rw [HE.out]⟩
  case round =>
    obtain ⟨k, hk1, hk, rfl, rfl⟩ := hrel
    by_cases hlt : k < n
    · obtain ⟨x, hx⟩ : ∃ x, xs[k]? = some x := ⟨_, List.getElem?_eq_getElem (by rw [HL.out]; exact hlt)⟩
      have hcell := HC.out k x hx
      have HT := Lib.hid (lmax_take hx (by omega))
      have HX := Lib.hid hx
      clear hx
      go_wp2
      go_round
      case rel => exact ⟨k + 1, by omega, by omega, by go_num, val_int (by rw [HT.out]; split <;> omega)⟩
      case measure => simp [intOf]; omega
    · have HT : Hid (lmax (xs.take k) = lmax xs) := Lib.hid (by rw [List.take_of_length_le (by rw [HL.out]; omega)])
      go_wp2
      go_ret
      exact ⟨ret_int HT.out, rfl⟩

/- Contracts: the rules of package vote, and Win. -/

theorem vmost_any (A : Option Addr) (n cap : Nat) (xs : List Int) (w : World) (hl : xs.length = n) (h1 : 1 ≤ n) (hm : n ≤ 9223372036854775807) (h : Ints w A xs) :
    Calls Try.prog 60 #[.slice A n cap] w fun e w' => e = .returned (.int .i64 (idx xs (lmax xs))) ∧ w = w' := by
  have H := Lib.hid (And.intro hl h)
  clear hl h
  go_enter Try.func60, Try.ntmps60
  go_wp2_with fail
  refine (max_any A n cap xs _ H.out.1 h1 hm H.out.2).mono ?_
  rintro e w' ⟨rfl, rfl⟩
  go_wp2_with fail
  refine (index_any A n cap xs _ _ H.out.1 hm H.out.2).mono ?_
  rintro e w' ⟨rfl, rfl⟩
  go_wp2_with fail
  go_ret
  exact ⟨rfl, rfl⟩

/-- The first places of r ballots, counted. -/
def ptsF (k : Nat) (B : List (List Nat)) : Nat → List Int
  | 0 => List.replicate k 0
  | r + 1 => (ptsF k B r).set ((B.getD r []).getD 0 0) ((ptsF k B r).getD ((B.getD r []).getD 0 0) 0 + 1)
theorem ptsF_length (k : Nat) (B : List (List Nat)) : ∀ r, (ptsF k B r).length = k := by
  intro r
  induction r with
  | zero => simp [ptsF]
  | succ r ih => simp [ptsF, ih]
theorem ptsF_bd (k : Nat) (B : List (List Nat)) : ∀ r, ∀ x ∈ ptsF k B r, 0 ≤ x ∧ x ≤ r := by
  intro r
  induction r with
  | zero => intro x hx; simp [ptsF] at hx; omega
  | succ r ih =>
    intro x hx
    rw [ptsF] at hx
    rcases List.mem_or_eq_of_mem_set hx with h | h
    · have := ih x h; omega
    · rw [h, List.getD_eq_getElem?_getD]
      cases hg : (ptsF k B r)[(B.getD r []).getD 0 0]? with
      | none => simp; omega
      | some y =>
        have := ih y (List.mem_of_getElem? hg)
        simp; omega

set_option maxHeartbeats 1600000 in
theorem vfirsts_any (A : Option Addr) (n cap k : Nat) (V : List (List Int)) (B : List (List Nat)) (w : World) (hB : Blts V k B) (hl : V.length = n) (hV : Mat w A V) :
    Calls Try.prog 43 #[.slice A n cap] w fun e w' => e = .returned (.int .i64 (idx (ptsF k B n) (lmax (ptsF k B n)))) ∧ Below w.heap.size w w' := by
  have hn9 : 1 ≤ n ∧ n ≤ 9 := by have := hB.hB; have := hB.len; omega
  have hk5 := hB.hn
  have hBn : B.length = n := by have := hB.len; omega
  have hmk := make_ints k (by omega)
  have H := Lib.hid (And.intro hl (And.intro hV (And.intro hB hBn)))
  clear hl hV hB hBn
  go_enter Try.func43, Try.ntmps43
  go_wp2_with fail
  refine (vnames_any A n cap k V _ H.out.1 hn9.1 (by omega) H.out.2.2.1.row0.symm (by omega) H.out.2.1).mono ?_
  rintro e w' ⟨rfl, rfl⟩
  go_upto_region 3 with fail
  obtain ⟨g, hg⟩ : ∃ g, g = w.heap.size := ⟨_, rfl⟩
  obtain ⟨w1, hw1⟩ : ∃ w1, w1 = w.alloc (.cells (arr (List.replicate k 0)) 3) := ⟨_, rfl⟩
  have hB1 : Blk w1 g 3 (arr (ptsF k B 0)) := by rw [hw1]; exact Blk.new _ _ _ hg
  have hb1 : Below w.heap.size w w1 := by rw [hw1]; exact (Below.refl _ _).alloc (Nat.le_refl _) _
  have H1 := Lib.hid (And.intro hB1 (And.intro hb1 hg))
  rw [← hw1, ← hg]
  clear hB1 hb1 hw1 hg hmk
  go_loopw [11] (fun iv wx => ∃ r : Nat, r ≤ n ∧ iv = .int .i64 r ∧ Blk wx g 3 (arr (ptsF k B r)) ∧ Below w.heap.size w wx) (fun iv _ => n - (intOf iv).toNat)
  case atStart => exact ⟨0, Nat.zero_le _, rfl, H1.out.1, H1.out.2.1⟩
  case round =>
    obtain ⟨r, hr, rfl, hP, hb⟩ := hrel
    have HR := Lib.hid (And.intro hP hb)
    by_cases hlt : r < n
    · have hrB : r < B.length := by have := H.out.2.2.2; omega
      have hodr := H.out.2.2.1.at_ hrB
      obtain ⟨ad, A', c, rfl, hcell, hrc, hc2, hI⟩ := H.out.2.1 r _ (H.out.2.2.1.get hrB)
      obtain ⟨b, hbe⟩ : ∃ b, b = B.getD r [] := ⟨_, rfl⟩
      rw [← hbe] at hodr hcell hrc hI
      rw [show (intL b).length = k by rw [intL_length, hodr.len]] at hcell hrc
      have c0 := (hb.cell (lt_of_cell hcell)).trans hcell
      obtain ⟨ab, rfl, hab, hcs⟩ := hI.some_ (by rw [intL_length, hodr.len]; omega)
      obtain ⟨x, hx⟩ : ∃ x, x = b.getD 0 0 := ⟨_, rfl⟩
      have hxk : x < k := by rw [hx]; exact hodr.get_lt (by omega)
      have h1 := hcs 0 ((b.getD 0 0 : Nat) : Int) (intL_some (by rw [List.getD_eq_getElem?_getD, List.getElem?_eq_getElem (by rw [hodr.len]; omega)]; rfl))
      rw [← hx] at h1
      have c1 : wr.cell? ab = some (.int .i64 (x : Int)) := (hb.cell (lt_of_cell h1)).trans h1
      have hPx := hP.cell x
      have hpl := ptsF_length k B r
      obtain ⟨p, hp⟩ : ∃ p, (ptsF k B r)[x]? = some p := ⟨_, List.getElem?_eq_getElem (by omega)⟩
      rw [arr_get, hp] at hPx
      have c2 : wr.cell? ⟨g, x, none⟩ = some (.int .i64 p) := hPx
      have f2 := hP.frozen x
      have hpb := ptsF_bd k B r p (List.mem_of_getElem? hp)
      have hset := hP.set_ x (.int .i64 (p + 1))
      have hnx : ptsF k B (r + 1) = (ptsF k B r).set x (p + 1) := by
        rw [ptsF, ← hbe, ← hx, List.getD_eq_getElem?_getD, hp]; rfl
      rw [arr_set, ← hnx] at hset
      have l1 : (r : Int) < (n : Int) := by omega
      have l2 : (x : Int) < (k : Int) := by omega
      have HS := Lib.hid (And.intro hset (hb.setCell (p := ⟨g, x, none⟩) (by rw [H1.out.2.2]; exact Nat.le_refl _) (.int .i64 (p + 1))))
      clear hP hb hrB hodr hcell hI hbe hcs hx h1 hPx hpl hp hset hnx
      go_wp2_with fail
      go_roundw
      case rel => exact ⟨r + 1, by omega, by go_num, HS.out.1, HS.out.2⟩
      case measure => simp [intOf]; omega
    · obtain rfl : r = n := by omega
      have l1 : ¬ (r : Int) < (r : Int) := by omega
      clear hP hb
      go_wp2_with fail
      refine (vmost_any (some ⟨g, 0, none⟩) k k (ptsF k B r) _ (ptsF_length k B r) hk5.1 (by omega) (blk_ints HR.out.1)).mono ?_
      rintro e w' ⟨rfl, rfl⟩
      go_wp2_with fail
      go_ret
      exact ⟨rfl, HR.out.2⟩

set_option maxHeartbeats 800000 in
theorem vordered_any (A : Option Addr) (n cap k : Nat) (V : List (List Int)) (B : List (List Nat)) (w : World) (hB : Blts V k B) (hl : V.length = n) (hV : Mat w A V) :
    Calls Try.prog 46 #[.slice A n cap] w fun e w' => ∃ best least, e = .returned (.int .i64 ((best.getD 0 0 : Nat) : Int)) ∧ Mid.kemTo B (Mid.allO k) = some (best, least) ∧ Below w.heap.size w w' := by
  have hk5 := hB.hn
  have HK := Lib.hid (vkemeny_any A n cap k V B w hB hl hV)
  clear hB hl hV
  go_enter Try.func46, Try.ntmps46
  go_wp2_with fail
  refine HK.out.mono ?_
  rintro e w2 ⟨gc, c, best, least, rfl, hs, hI, hc1, hc2, hb2⟩
  have hbl : best.length = k := by
    rcases Mid.kemTo_min B (Mid.allO k) _ rfl with ⟨_, h1⟩ | ⟨b, l, h1, h2, _⟩
    · rw [h1] at hs; cases hs
    · rw [hs] at h1
      injection h1 with h1
      injection h1 with h1 _
      subst h1
      exact (Mid.allO_mem.1 h2).len
  obtain ⟨x, hx⟩ : ∃ x, x = best.getD 0 0 := ⟨_, rfl⟩
  have c0 : w2.cell? ⟨gc, 0, none⟩ = some (.int .i64 (x : Int)) := by
    obtain ⟨ad, he, hc⟩ := hI 0 (.int .i64 (x : Int)) (by rw [List.getElem?_map, intL_some (x := x) (by rw [hx, List.getD_eq_getElem?_getD, List.getElem?_eq_getElem (by omega)]; rfl)]; rfl)
    injection he with he
    rw [he]; exact hc
  have l1 : (0 : Int) < (k : Int) := by omega
  have H2 := Lib.hid (And.intro hs (And.intro hb2 hx))
  clear hs hI hb2 hbl hx
  go_wp2_with fail
  go_ret
  exact ⟨best, least, by rw [H2.out.2.2]; rfl, H2.out.1, H2.out.2.1⟩

/-- What the winner by a rule is. -/
def WinP (rule : Int) (k n : Nat) (B : List (List Nat)) (x : Int) : Prop :=
  (rule = 0 → x = idx (ptsF k B n) (lmax (ptsF k B n))) ∧ (rule = 2 → x = Mid.pathF k (Mid.wdK k (mmF k B) k)) ∧ (rule = 3 → ∃ best least, x = ((best.getD 0 0 : Nat) : Int) ∧ Mid.kemTo B (Mid.allO k) = some (best, least))
set_option maxHeartbeats 800000 in
theorem vwinner_any (A : Option Addr) (n cap k : Nat) (rule : Int) (V : List (List Int)) (B : List (List Nat)) (w : World) (hr : rule = 0 ∨ rule = 2 ∨ rule = 3) (hB : Blts V k B) (hl : V.length = n) (hV : Mat w A V) :
    Calls Try.prog 21 #[.slice A n cap, .int .i64 rule] w fun e w' => ∃ x, e = .returned (.int .i64 x) ∧ WinP rule k n B x ∧ Below w.heap.size w w' := by
  rcases hr with rfl | rfl | rfl
  · have HF := Lib.hid (vfirsts_any A n cap k V B w hB hl hV)
    have hix : ∀ w : World, (Instr.index 75 (.agg #[.func (.func 43) #[] #[], .func (.func 44) #[] #[], .func (.func 45) #[] #[], .func (.func 46) #[] #[]]) (.int .i64 0)).run Try.prog w = .ok (.func (.func 43) #[] #[]) w := fun w => by kernel_rfl
    clear hB hl hV
    go_enter Try.func21, Try.ntmps21
    go_wp2_with fail
    refine HF.out.mono ?_
    rintro e w1 ⟨rfl, hb⟩
    have HB := Lib.hid hb
    clear hb
    go_wp2_with fail
    go_ret
    exact ⟨_, rfl, ⟨fun _ => rfl, fun h => absurd h (by decide), fun h => absurd h (by decide)⟩, HB.out⟩
  · have HF := Lib.hid (vpaths_any A n cap k V B w hB hl hV)
    have hix : ∀ w : World, (Instr.index 75 (.agg #[.func (.func 43) #[] #[], .func (.func 44) #[] #[], .func (.func 45) #[] #[], .func (.func 46) #[] #[]]) (.int .i64 2)).run Try.prog w = .ok (.func (.func 45) #[] #[]) w := fun w => by kernel_rfl
    clear hB hl hV
    go_enter Try.func21, Try.ntmps21
    go_wp2_with fail
    refine HF.out.mono ?_
    rintro e w1 ⟨rfl, hb⟩
    have HB := Lib.hid hb
    clear hb
    go_wp2_with fail
    go_ret
    exact ⟨_, rfl, ⟨fun h => absurd h (by decide), fun _ => rfl, fun h => absurd h (by decide)⟩, HB.out⟩
  · have HF := Lib.hid (vordered_any A n cap k V B w hB hl hV)
    have hix : ∀ w : World, (Instr.index 75 (.agg #[.func (.func 43) #[] #[], .func (.func 44) #[] #[], .func (.func 45) #[] #[], .func (.func 46) #[] #[]]) (.int .i64 3)).run Try.prog w = .ok (.func (.func 46) #[] #[]) w := fun w => by kernel_rfl
    clear hB hl hV
    go_enter Try.func21, Try.ntmps21
    go_wp2_with fail
    refine HF.out.mono ?_
    rintro e w1 ⟨best, least, rfl, hs, hb⟩
    have HB := Lib.hid (And.intro hs hb)
    clear hs hb
    go_wp2_with fail
    go_ret
    exact ⟨_, rfl, ⟨fun h => absurd h (by decide), fun h => absurd h (by decide), fun _ => ⟨best, least, rfl, HB.out.1⟩⟩, HB.out.2⟩

set_option maxHeartbeats 800000 in
theorem vwin_any (A : Option Addr) (n cap k : Nat) (rule : Int) (V : List (List Int)) (B : List (List Nat)) (w : World) (hr : rule = 0 ∨ rule = 2 ∨ rule = 3) (hv : valB V = true) (hB : Blts V k B) (hl : V.length = n) (hV : Mat w A V) :
    Calls Try.prog 10 #[.slice A n cap, .int .i64 rule] w fun e w' => ∃ x, e = .returned (.tuple #[.int .i64 x, .int .i64 0]) ∧ WinP rule k n B x ∧ Below w.heap.size w w' := by
  have hn9 : n ≤ 9 := by have := hB.hB; have := hB.len; omega
  have HV := Lib.hid (vvalid_any A n cap V w hl (by omega) hV)
  rw [hv] at HV
  have H := Lib.hid (And.intro hr (And.intro hB (And.intro hl hV)))
  have r1 : ¬ rule < 0 := by omega
  have r2 : ¬ 3 < rule := by omega
  clear hr hB hl hV hv
  go_enter Try.func10, Try.ntmps10
  go_wp2_with fail
  refine HV.out.mono ?_
  rintro e w1 ⟨rfl, hb1⟩
  have H1 := Lib.hid (And.intro hb1 (H.out.2.2.2.below hb1))
  clear hb1
  go_wp2_with fail
  refine (vwinner_any A n cap k rule V B _ H.out.1 H.out.2.1 H.out.2.2.1 H1.out.2).mono ?_
  rintro e w2 ⟨x, rfl, hx, hb2⟩
  have H2 := Lib.hid (And.intro hx (H1.out.1.trans (hb2.mono H1.out.1.size)))
  clear hx hb2
  go_wp2_with fail
  go_ret2
  exact ⟨x, rfl, H2.out.1, H2.out.2⟩

/- Contract: Best of package vote, where someone wins over everyone. -/

theorem andNot_sub : ∀ m : Fin 5, ∀ b : Fin 32, b.val.testBit m.val = true → bits .andNot .i64 ((2 ^ m.val : Nat) : Int) (b.val : Int) = 0 := by decide +kernel
theorem andNot_not : ∀ s : Fin 32, ∀ x m : Fin 5, x ≠ m → s.val.testBit x.val = true → bits .andNot .i64 (s.val : Int) ((2 ^ m.val : Nat) : Int) ≠ 0 := by decide +kernel
theorem or_gt {s c : Nat} (h : s.testBit c = false) : s < s ||| 2 ^ c := by
  rcases Nat.lt_or_ge s (s ||| 2 ^ c) with h1 | h1
  · exact h1
  · have h2 : s ≤ s ||| 2 ^ c := Nat.left_le_or
    have h3 : s ||| 2 ^ c = s := by omega
    have h4 : (s ||| 2 ^ c).testBit c = true := by rw [Nat.testBit_or, Nat.testBit_two_pow]; simp
    rw [h3, h] at h4; cases h4

set_option maxRecDepth 100000 in
set_option maxHeartbeats 4000000 in
theorem vbest_any (A : Option Addr) (n cap k m : Nat) (V : List (List Int)) (B : List (List Nat)) (w : World) (hv : valB V = true) (hB : Blts V k B) (hl : V.length = n) (hV : Mat w A V) (hm : m < k) (hw : ∀ x, x < k → x ≠ m → 0 < Mid.mg B m x) :
    Calls Try.prog 11 #[.slice A n cap] w fun e w' => e = .returned (.tuple #[.int .i64 ((2 ^ m : Nat) : Int), .int .i64 0]) ∧ Below w.heap.size w w' := by
  have hn9 : 1 ≤ n ∧ n ≤ 9 := by have := hB.hB; have := hB.len; omega
  have hk5 := hB.hn
  have HV := Lib.hid (vvalid_any A n cap V w hl (by omega) hV)
  rw [hv] at HV
  have hmw : ∀ x, x < k → x ≠ m → 0 < mmF k B m x ∧ mmF k B x m < 0 := fun x hx hxm => by
    have h := hw x hx hxm
    unfold mmF
    rw [if_pos ⟨hm, hx⟩, if_pos ⟨hx, hm⟩, Mid.mg_swap B m x]; omega
  have H := Lib.hid (And.intro hl (And.intro hV (And.intro hB hmw)))
  clear hl hV hB hv hw hmw
  go_enter Try.func11, Try.ntmps11
  go_wp2_with fail
  refine HV.out.mono ?_
  rintro e w1 ⟨rfl, hb1⟩
  have H1 := Lib.hid (And.intro hb1 (H.out.2.1.below hb1))
  clear hb1
  go_wp2_with fail
  refine (vmargins_any A n cap k V B _ H.out.2.2.1 H.out.1 H1.out.2).mono ?_
  rintro e w2 ⟨rfl, hb2⟩
  have H2 := Lib.hid (And.intro (H1.out.1.trans (hb2.mono H1.out.1.size)) (H1.out.2.below hb2))
  clear hb2
  go_wp2_with fail
  refine (vnames_any A n cap k V _ H.out.1 hn9.1 (by omega) H.out.2.2.1.row0.symm (by omega) H2.out.2).mono ?_
  rintro e w' ⟨rfl, rfl⟩
  obtain ⟨M, hMe⟩ : ∃ M, M = mmF k B := ⟨_, rfl⟩
  rw [← hMe]
  obtain ⟨gM, hgM⟩ : ∃ gM, gM = w2.heap.size := ⟨_, rfl⟩
  have hz2 := H2.out.1.size
  have hN0 : Blk (w2.alloc (.cells (mcells fun _ _ => 0) 49)) gM 49 (mcells fun _ _ => 0) := Blk.new _ _ _ hgM
  obtain ⟨W3, hW3⟩ : ∃ W3, W3 = (w2.alloc (.cells (mcells fun _ _ => 0) 49)).setRow gM (mcells M) := ⟨_, rfl⟩
  have hM3 : Blk W3 gM 49 (mcells M) := by rw [hW3]; exact hN0.setRow _
  have hb3 : Below w.heap.size w W3 := by rw [hW3]; exact below_setRow (H2.out.1.alloc (by omega) _) (by omega) _
  have hcell : ∀ x y, x < 5 → y < 5 → W3.cell? ⟨gM, x * 5 + y, none⟩ = some (.int .i64 (M x y)) := fun x y hx hy => by
    have := hM3.cell (x * 5 + y)
    rwa [mcells_get _ hx hy] at this
  have hmw := H.out.2.2.2
  rw [← hMe] at hmw
  have HGM := Lib.hid hgM
  have HN0 := Lib.hid hN0
  have HW3 := Lib.hid hW3
  have H3 := Lib.hid (And.intro hcell (And.intro hb3 hmw))
  clear hMe hgM hz2 hN0 hW3 hM3 hb3 hcell hmw
  go_upto_region 5 with (refine wpList_store_row rfl 49 _ _ rfl gM (mcells M) (by rw [HGM.out]; rfl) rfl 49 _ HN0.out (minfo _) (by rw [mcells_size, mcells_size]) (mcells_one _) ?_)
  generalize hW : World.setRow _ _ _ = X3
  obtain rfl : X3 = W3 := by rw [← hW, HW3.out]; rfl
  clear hW HW3
  rw [← HGM.out]
  have hpk : IntKind.i64.wrap ((2 : Int) ^ k) = ((2 ^ k : Nat) : Int) := pow_wrap k (by omega)
  have hp32 : 2 ≤ 2 ^ k ∧ 2 ^ k ≤ 32 := ⟨Nat.pow_le_pow_right (n := 2) (by omega) hk5.1, Nat.pow_le_pow_right (n := 2) (by omega) hk5.2⟩
  obtain ⟨P, hP⟩ : ∃ P, P = 2 ^ k := ⟨_, rfl⟩
  rw [← hP] at hpk hp32
  have HP := Lib.hid hP
  clear hP
  have hP1 : (P : Int) - 1 = ((P - 1 : Nat) : Int) := by omega
  have hPm : (P - 1).testBit m = true := by rw [HP.out, Nat.testBit_two_pow_sub_one]; exact decide_eq_true hm
  have HPM := Lib.hid hPm
  have hbm : ∀ b, b < P → b.testBit m = true → bits .andNot .i64 ((2 ^ m : Nat) : Int) (b : Int) = 0 := fun b hb h => andNot_sub ⟨m, by omega⟩ ⟨b, by omega⟩ h
  have hbx : ∀ s x, s < P → x < k → x ≠ m → s.testBit x = true → bits .andNot .i64 (s : Int) ((2 ^ m : Nat) : Int) ≠ 0 := fun s x hs hx hxm h => andNot_not ⟨s, by omega⟩ ⟨x, by omega⟩ ⟨m, by omega⟩ (fun e => hxm (by injection e)) h
  have HBB := Lib.hid (And.intro hbm hbx)
  clear hPm hbm hbx
  go_upto_region 7 with fail
  go_loop [7, 25] (fun bv xv => ∃ (x bs : Nat), x ≤ k ∧ xv = .int .i64 (x : Int) ∧ bv = .int .i64 (bs : Int) ∧ bs < P ∧ bs.testBit m = true ∧ (m < x → bs = 2 ^ m)) (fun _ xv => k - (intOf xv).toNat)
  case atStart => exact ⟨0, P - 1, Nat.zero_le _, rfl, rfl, by omega, HPM.out, fun h => by omega⟩
  case round =>
    obtain ⟨x, bs, hx, rfl, rfl, hbP, hbt, hbm⟩ := hrel
    have HR := Lib.hid (And.intro hbt hbm)
    clear hbt hbm
    by_cases hlt : x < k
    · have l1 : (x : Int) < (k : Int) := by omega
      have hpx : IntKind.i64.wrap ((2 : Int) ^ x) = ((2 ^ x : Nat) : Int) := pow_wrap x (by omega)
      have hxP : 2 ^ x < P := by rw [HP.out]; exact Nat.pow_lt_pow_right (by omega) hlt
      obtain ⟨S0, hS0⟩ : ∃ S0, S0 = 2 ^ x := ⟨_, rfl⟩
      rw [← hS0] at hpx hxP
      have hS0x : S0.testBit x = true := by rw [hS0, Nat.testBit_two_pow]; simp
      have HS0 := Lib.hid (And.intro hS0 hS0x)
      clear hS0 hS0x
      go_upto_region 11 with fail
      go_loop [9, 10] (fun sv av => ∃ (s : Nat) (ag : Bool), sv = .int .i64 (s : Int) ∧ av = .bool ag ∧ s < P ∧ s.testBit x = true ∧ (x = m → s = 2 ^ m) ∧ (ag = false → x ≠ m → s.testBit m = true)) (fun sv av => match av with | .bool true => P + 1 - (intOf sv).toNat | _ => 0)
      case atStart => exact ⟨S0, true, rfl, rfl, hxP, HS0.out.2, (fun h => by rw [HS0.out.1, h]), fun h => by cases h⟩
      case round =>
        obtain ⟨s0, ag, rfl, rfl, hsP, hsx, hsm, hsc⟩ := hrel
        have HS := Lib.hid (And.intro hsx (And.intro hsm hsc))
        clear hsx hsm hsc
        cases ag
        · -- the set is closed
          have htm : s0.testBit m = true := by
            by_cases e : x = m
            · rw [HS.out.2.1 e, Nat.testBit_two_pow]; simp
            · exact HS.out.2.2 (by trivial) e
          have HT := Lib.hid htm
          clear htm
          obtain ⟨z, hz⟩ : ∃ z, z = bits .andNot .i64 (s0 : Int) (bs : Int) := ⟨_, rfl⟩
          have HZ := Lib.hid hz
          by_cases hz0 : z = 0
          · have d1 : (bits .andNot .i64 (s0 : Int) (bs : Int) == 0) = true := by rw [← hz, hz0]; rfl
            have HN : Hid (m < x + 1 → s0 = 2 ^ m) := Lib.hid (fun h => by
              by_cases e : x = m
              · exact HS.out.2.1 e
              · have hb2 := HR.out.2 (by omega)
                exfalso
                have := HBB.out.2 s0 x hsP hlt e HS.out.1
                rw [← hb2, ← HZ.out] at this
                exact this hz0)
            clear hz hz0
            go_wp2_with fail
            go_round
            case rel => exact ⟨x + 1, s0, by omega, by go_num, rfl, hsP, HT.out, HN.out⟩
            case measure => simp [intOf]; omega
          · have d1 : (bits .andNot .i64 (s0 : Int) (bs : Int) == 0) = false := by rw [← hz, beq_eq_false_iff_ne]; exact hz0
            have HN : Hid (m < x + 1 → bs = 2 ^ m) := Lib.hid (fun h => by
              by_cases e : x = m
              · exfalso
                have h1 := HBB.out.1 bs hbP HR.out.1
                rw [← HS.out.2.1 e, ← HZ.out] at h1
                exact hz0 h1
              · exact HR.out.2 (by omega))
            clear hz hz0
            go_wp2_with fail
            go_round
            case rel => exact ⟨x + 1, bs, by omega, by go_num, rfl, hbP, HR.out.1, HN.out⟩
            case measure => simp [intOf]; omega
        · go_upto_region 14 with fail
          go_loop [9, 10, 32] (fun sv av cv => ∃ (a s : Nat) (ag : Bool), a ≤ k ∧ cv = .int .i64 (a : Int) ∧ sv = .int .i64 (s : Int) ∧ av = .bool ag ∧ s < P ∧ s.testBit x = true ∧ (x = m → s = 2 ^ m) ∧ s0 ≤ s ∧ (ag = true → s0 < s) ∧ (ag = false → x ≠ m → x < a → s.testBit m = true)) (fun _ _ cv => k - (intOf cv).toNat)
          case atStart => exact ⟨0, s0, false, Nat.zero_le _, rfl, rfl, rfl, hsP, HS.out.1, HS.out.2.1, Nat.le_refl _, (fun h => by cases h), fun _ _ h => by omega⟩
          case round =>
            obtain ⟨a, s1, ag, ha, rfl, rfl, rfl, hsP1, hsx, hsm, hsl, hs0, hsc⟩ := hrel
            have HA := Lib.hid (And.intro hsx (And.intro hsm (And.intro hsl (And.intro hs0 hsc))))
            clear hsx hsm hs0 hsc
            by_cases hla : a < k
            · have l2 : (a : Int) < (k : Int) := by omega
              go_upto_region 17 with fail
              go_loop [9, 10, 36] (fun sv av cv => ∃ (c s : Nat) (ag : Bool), c ≤ k ∧ cv = .int .i64 (c : Int) ∧ sv = .int .i64 (s : Int) ∧ av = .bool ag ∧ s < P ∧ s.testBit x = true ∧ (x = m → s = 2 ^ m) ∧ s0 ≤ s ∧ (ag = true → s0 < s) ∧ (ag = false → x ≠ m → x < a ∨ (x = a ∧ m < c) → s.testBit m = true)) (fun _ _ cv => k - (intOf cv).toNat)
              case atStart => exact ⟨0, s1, ag, Nat.zero_le _, rfl, rfl, rfl, hsP1, HA.out.1, HA.out.2.1, HA.out.2.2.1, HA.out.2.2.2.1, fun h1 h2 h3 => HA.out.2.2.2.2 h1 h2 (by omega)⟩
              case round =>
                obtain ⟨c, s, ag2, hc, rfl, rfl, rfl, hsP2, hsx, hsm, hsl2, hs0, hsc⟩ := hrel
                by_cases hlc : c < k
                · have l3 : (c : Int) < (k : Int) := by omega
                  have keep : ∀ (_ : s.testBit a = false ∨ s.testBit c = true ∨ 0 < M a c), Hid (ag2 = false → x ≠ m → x < a ∨ (x = a ∧ m < c + 1) → s.testBit m = true) := fun hwhy => Lib.hid (fun h1 h2 h3 => by
                    by_cases e : x < a ∨ (x = a ∧ m < c)
                    · exact hsc h1 h2 e
                    · have e1 : x = a := by omega
                      have e2 : m = c := by omega
                      subst e1; subst e2
                      rcases hwhy with h | h | h
                      · rw [hsx] at h; cases h
                      · exact h
                      · have := (H3.out.2.2 x (by omega) h2).2; omega)
                  have HC := Lib.hid (And.intro hsx (And.intro hsm (And.intro hsl2 (And.intro hs0 hsc))))
                  cases hta : s.testBit a
                  · have HK := keep (.inl hta)
                    have b1 := and_shr_f (set := s) (k := a) (by omega) hta
                    clear hta keep hsx hsm hs0 hsc
                    go_wp2_with fail
                    go_round
                    case rel => exact ⟨c + 1, s, ag2, by omega, by go_num, rfl, rfl, hsP2, HC.out.1, HC.out.2.1, HC.out.2.2.1, HC.out.2.2.2.1, HK.out⟩
                    case measure => simp [intOf]; omega
                  · have b1 := and_shr_t (set := s) (k := a) (by omega) hta
                    cases htc : s.testBit c
                    · have b2 : (bits .and .i64 ((s : Int) / 2 ^ c) 1 == 0) = true := by rw [and_shr s c (by omega), htc]; rfl
                      have c1 := H3.out.1 a c (by omega) (by omega)
                      have l4 : (a : Int) < 5 := by omega
                      have l5 : (c : Int) < 5 := by omega
                      obtain ⟨v, hv⟩ : ∃ v, v = M a c := ⟨_, rfl⟩
                      rw [← hv] at c1
                      by_cases hv0 : v ≤ 0
                      · have e1 := or_pow s c (by omega) (by omega)
                        have e2 := or_pow' s c (by omega) (by omega)
                        have hgt := or_gt htc
                        have hor : s ||| 2 ^ c < P := by rw [HP.out]; exact or_pow_lt (by rw [← HP.out]; exact hsP2) hlc
                        have hnm : x ≠ m := fun e => by
                          have h1 := hsm e
                          have h2 : a = m := by
                            rw [h1, Nat.testBit_two_pow] at hta
                            have h3 : m = a := by simpa using hta
                            exact h3.symm
                          have h3 : c ≠ m := fun h => by rw [h1, h, Nat.testBit_two_pow] at htc; simp at htc
                          have := (H3.out.2.2 c hlc h3).1
                          rw [← h2, ← hv] at this; omega
                        have hsx2 : (s ||| 2 ^ c).testBit x = true := by rw [Nat.testBit_or, hsx]; rfl
                        obtain ⟨s2, hs2⟩ : ∃ s2, s2 = s ||| 2 ^ c := ⟨_, rfl⟩
                        rw [← hs2] at e1 e2 hgt hor hsx2
                        have HN := Lib.hid (And.intro hsx2 hnm)
                        clear hta htc keep hsx hsm hs0 hsc hv hsx2 hnm hs2
                        go_wp2_with fail
                        go_round
                        case rel => exact ⟨c + 1, s2, true, by omega, by go_num, rfl, rfl, hor, HN.out.1, (fun h => absurd h HN.out.2), by omega, (fun _ => by omega), fun h => by cases h⟩
                        case measure => simp [intOf]; omega
                      · have HK := keep (.inr (.inr (by omega)))
                        have HVV := Lib.hid hv
                        have l6 : ¬ v ≤ 0 := hv0
                        clear hta htc keep hsx hsm hs0 hsc hv hv0
                        go_wp2_with fail
                        go_round
                        case rel => exact ⟨c + 1, s, ag2, by omega, by go_num, rfl, rfl, hsP2, HC.out.1, HC.out.2.1, HC.out.2.2.1, HC.out.2.2.2.1, HK.out⟩
                        case measure => simp [intOf]; omega
                    · have HK := keep (.inr (.inl htc))
                      have b2 : (bits .and .i64 ((s : Int) / 2 ^ c) 1 == 0) = false := by rw [and_shr s c (by omega), htc]; rfl
                      clear hta htc keep hsx hsm hs0 hsc
                      go_wp2_with fail
                      go_round
                      case rel => exact ⟨c + 1, s, ag2, by omega, by go_num, rfl, rfl, hsP2, HC.out.1, HC.out.2.1, HC.out.2.2.1, HC.out.2.2.2.1, HK.out⟩
                      case measure => simp [intOf]; omega
                · have l3 : ¬ (c : Int) < (k : Int) := by omega
                  have HC := Lib.hid (And.intro hsx (And.intro hsm (And.intro hsl2 (And.intro hs0 hsc))))
                  clear hsx hsm hs0 hsc
                  go_wp2_with fail
                  go_round
                  case rel => exact ⟨a + 1, s, ag2, by omega, by go_num, rfl, rfl, hsP2, HC.out.1, HC.out.2.1, HC.out.2.2.1, HC.out.2.2.2.1, fun h1 h2 h3 => HC.out.2.2.2.2 h1 h2 (by omega)⟩
                  case measure => simp [intOf]; omega
            · have l2 : ¬ (a : Int) < (k : Int) := by omega
              go_wp2_with fail
              go_round
              case rel => exact ⟨s1, ag, rfl, rfl, hsP1, HA.out.1, HA.out.2.1, fun h1 h2 => HA.out.2.2.2.2 h1 h2 (by omega)⟩
              case measure =>
                have h1 := HA.out.2.2.2.1
                cases ag
                · simp [intOf]; omega
                · have := h1 (by trivial)
                  simp [intOf]; omega
    · have l1 : ¬ (x : Int) < (k : Int) := by omega
      have HN : Hid (bs = 2 ^ m) := Lib.hid (HR.out.2 (by omega))
      go_wp2_with fail
      go_ret2
      exact ⟨by rw [HN.out]; rfl, H3.out.2.1⟩

/- Contracts: Valid of package corrodyref03; the top's own example of ballots. -/

set_option maxHeartbeats 800000 in
theorem r3rank_any (A : Option Addr) (n cap : Nat) (xs : List Int) (y : Int) (w : World) (hl : xs.length = n) (hm : n ≤ 9223372036854775807) (h : Ints w A xs) :
    Calls Try.prog 31 #[.slice A n cap, .int .i64 y] w fun e w' => (∃ r : Int, e = .returned (.int .i64 r)) ∧ w = w' := by
  have H := Lib.hid (And.intro hl h)
  clear hl h
  go_enter Try.func31, Try.ntmps31
  go_wp2_with fail
  go_loop [9] (fun i => ∃ k : Nat, k ≤ n ∧ i = .int .i64 k) (fun i => n - (intOf i).toNat)
  case atStart => exact ⟨0, Nat.zero_le _, rfl⟩
  case round =>
    obtain ⟨k, hk, rfl⟩ := hrel
    by_cases hlt : k < n
    · obtain ⟨x, hx⟩ : ∃ x, xs[k]? = some x := ⟨_, List.getElem?_eq_getElem (by have := H.out.1; omega)⟩
      obtain ⟨ad, rfl, hc⟩ := H.out.2 k (.int .i64 x) (by rw [List.getElem?_map, hx]; rfl)
      have l1 : (k : Int) < (n : Int) := by omega
      clear hx
      by_cases he : y = x
      · have d1 : (y == x) = true := by simp [he]
        clear he
        go_wp2_with fail
        go_ret
        exact ⟨⟨_, rfl⟩, rfl⟩
      · have d1 : (y == x) = false := by simp [he]
        clear he
        go_wp2_with fail
        go_round
        case rel => exact ⟨k + 1, by omega, by go_num⟩
        case measure => simp [intOf]; omega
    · have l1 : ¬ (k : Int) < (n : Int) := by omega
      go_wp2_with fail
      go_ret
      exact ⟨⟨_, rfl⟩, rfl⟩

/-- A Boolean that is true only if p holds. -/
def BoolPost (p : Prop) (w : World) (e : Ending) (w' : World) : Prop := (∃ b, e = .returned (.bool b) ∧ (b = true → p)) ∧ w = w'
set_option maxHeartbeats 800000 in
theorem r3isorder_any (A : Option Addr) (n cap c : Nat) (xs : List Int) (w : World) (hl : xs.length = n) (hm : n ≤ 9223372036854775807) (hcm : c ≤ 9223372036854775807) (h : Ints w A xs) :
    Calls Try.prog 18 #[.slice A n cap, .int .i64 c] w (BoolPost (n = c) w) := by
  have H := Lib.hid (And.intro hl h)
  clear hl h
  go_enter Try.func18, Try.ntmps18
  go_wp2_with fail
  go_loop [7] (fun i => ∃ k : Nat, k ≤ c ∧ i = .int .i64 k) (fun i => c - (intOf i).toNat)
  case atStart => exact ⟨0, Nat.zero_le _, rfl⟩
  case round =>
    obtain ⟨k, hk, rfl⟩ := hrel
    by_cases hlt : k < c
    · have l1 : (k : Int) < (c : Int) := by omega
      go_wp2_with fail
      refine (r3rank_any A n cap xs (k : Int) _ H.out.1 hm H.out.2).mono ?_
      rintro e w' ⟨⟨r, rfl⟩, rfl⟩
      by_cases hr : r < 0
      · go_wp2_with fail
        go_ret
        exact ⟨⟨false, rfl, fun h => by cases h⟩, rfl⟩
      · go_wp2_with fail
        go_round
        case rel => exact ⟨k + 1, by omega, by go_num⟩
        case measure => simp [intOf]; omega
    · have l1 : ¬ (k : Int) < (c : Int) := by omega
      by_cases hnc : n = c
      · have d1 : ((n : Int) == (c : Int)) = true := by simp [hnc]
        have HN := Lib.hid hnc
        clear hnc
        go_wp2_with fail
        go_ret
        exact ⟨⟨true, rfl, fun _ => HN.out⟩, rfl⟩
      · have d1 : ((n : Int) == (c : Int)) = false := by rw [beq_eq_false_iff_ne]; omega
        clear hnc
        go_wp2_with fail
        go_ret
        exact ⟨⟨false, rfl, fun h => by cases h⟩, rfl⟩

set_option maxHeartbeats 1600000 in
theorem r3valid_any (A : Option Addr) (n cap : Nat) (V : List (List Int)) (w : World) (hl : V.length = n) (hn : n ≤ 9223372036854775807) (hV : Mat w A V) :
    Calls Try.prog 6 #[.slice A n cap] w (BoolPost (1 ≤ n ∧ n ≤ 9 ∧ ∀ r ∈ V, r.length ≤ 5) w) := by
  have H := Lib.hid (And.intro hl hV)
  by_cases h1 : n < 1
  · clear hl hV
    go_enter Try.func6, Try.ntmps6
    go_wp2_with fail
    go_ret
    exact ⟨⟨false, rfl, fun h => by cases h⟩, rfl⟩
  · by_cases h2 : 9 < n
    · clear hl hV
      have l0 : (9 : Int) < (n : Int) := by omega
      go_enter Try.func6, Try.ntmps6
      go_wp2_with fail
      go_ret
      exact ⟨⟨false, rfl, fun h => by cases h⟩, rfl⟩
    · obtain ⟨ad, rfl, had, hc⟩ := hV.some_ (by omega)
      obtain ⟨r0, hr0⟩ : ∃ r, V[0]? = some r := ⟨_, List.getElem?_eq_getElem (by omega)⟩
      obtain ⟨A0, c0, g1, g2, g3, _⟩ := hc 0 r0 hr0
      have c1 : w.cell? ad = some (.slice A0 r0.length c0) := g1
      obtain ⟨c, hcc⟩ : ∃ c, c = r0.length := ⟨_, rfl⟩
      rw [← hcc] at c1
      have hcm : c ≤ 9223372036854775807 := by omega
      have l1 : (0 : Int) < (n : Int) := by omega
      have l2 : ¬ (9 : Int) < (n : Int) := by omega
      have l3 : ¬ (n : Int) < 1 := by omega
      clear hl hV hc hr0 g1 g2 g3 hcc
      go_enter Try.func6, Try.ntmps6
      go_wp2_with fail
      go_loop [20] (fun i => ∃ k : Nat, k ≤ n ∧ i = .int .i64 k ∧ ∀ r ∈ V.take k, r.length = c) (fun i => n - (intOf i).toNat)
      case atStart => exact ⟨0, Nat.zero_le _, rfl, by simp⟩
      case round =>
        obtain ⟨k, hk, rfl, ha⟩ := hrel
        have HA := Lib.hid ha
        clear ha
        by_cases hlt : k < n
        · obtain ⟨r, hr⟩ : ∃ r, V[k]? = some r := ⟨_, List.getElem?_eq_getElem (by have := H.out.1; omega)⟩
          obtain ⟨ad', A', c', he, hcell, hrc, hc2, hI⟩ := H.out.2 k r hr
          injection he with he
          subst he
          have l4 : (k : Int) < (n : Int) := by omega
          obtain ⟨rl, hrl⟩ : ∃ rl, rl = r.length := ⟨_, rfl⟩
          rw [← hrl] at hcell hrc
          have HI := Lib.hid (And.intro hI (And.intro hrl hr))
          clear hr hI hrl
          go_wp2_with fail
          refine (r3isorder_any A' rl c' c r _ HI.out.2.1.symm (by omega) hcm HI.out.1).mono ?_
          rintro e w' ⟨⟨b, rfl, hb⟩, rfl⟩
          cases b
          · clear hb
            go_wp2_with fail
            go_ret
            exact ⟨⟨false, rfl, fun h => by cases h⟩, rfl⟩
          · have HN : Hid (∀ r ∈ V.take (k + 1), r.length = c) := Lib.hid (fun r' hr' => by
              rw [List.take_add_one, HI.out.2.2] at hr'
              rcases List.mem_append.1 hr' with h | h
              · exact HA.out r' h
              · simp at h; subst h; rw [← HI.out.2.1]; exact hb rfl)
            clear hb
            go_wp2_with fail
            go_round
            case rel => exact ⟨k + 1, by omega, by go_num, HN.out⟩
            case measure => simp [intOf]; omega
        · have l4 : ¬ (k : Int) < (n : Int) := by omega
          have HT : Hid (∀ r ∈ V, r.length = c) := Lib.hid (by have h := HA.out; rwa [List.take_of_length_le (by have := H.out.1; omega)] at h)
          by_cases q1 : 1 ≤ c
          · by_cases q2 : c ≤ 5
            · have p1 : (1 : Int) ≤ (c : Int) := by omega
              have p2 : (c : Int) ≤ 5 := by omega
              go_wp2_with fail
              go_ret
              exact ⟨⟨true, rfl, fun _ => ⟨by omega, by omega, fun r hr => by rw [HT.out r hr]; exact q2⟩⟩, rfl⟩
            · have p1 : (1 : Int) ≤ (c : Int) := by omega
              have p2 : ¬ (c : Int) ≤ 5 := by omega
              go_wp2_with fail
              go_ret
              exact ⟨⟨false, rfl, fun h => by cases h⟩, rfl⟩
          · have p1 : ¬ (1 : Int) ≤ (c : Int) := by omega
            go_wp2_with fail
            go_ret
            exact ⟨⟨false, rfl, fun h => by cases h⟩, rfl⟩

theorem valB_ex : valB [[1, 0], [0, 1], [1, 0]] = true := by decide
theorem blts_ex : Blts [[1, 0], [0, 1], [1, 0]] 2 [[1, 0], [0, 1], [1, 0]] := by
  refine ⟨rfl, by omega, by decide, fun b hb => ?_⟩
  have h0 : Mid.Odr 2 [1, 0] := Mid.full_of rfl (by decide) (by decide)
  have h1 : Mid.Odr 2 [0, 1] := Mid.full_of rfl (by decide) (by decide)
  rcases List.mem_cons.1 hb with rfl | hb
  · exact h0
  · rcases List.mem_cons.1 hb with rfl | hb
    · exact h1
    · rw [List.mem_singleton.1 hb]; exact h0

set_option maxHeartbeats 800000 in
theorem tcounts_any (w : World) : Calls Try.prog 7 #[] w fun e w' => e = .returned (.bool true) ∧ Below w.heap.size w w' := by
  obtain ⟨w4, hw4⟩ : ∃ w4, w4 = (((w.alloc (.cells #[.int .i64 1, .int .i64 0] 3)).alloc (.cells #[.int .i64 0, .int .i64 1] 3)).alloc (.cells #[.int .i64 1, .int .i64 0] 3)).alloc
    (.cells #[.slice (some ⟨w.heap.size, 0, none⟩) 2 2, .slice (some ⟨w.heap.size + 1, 0, none⟩) 2 2, .slice (some ⟨w.heap.size + 1 + 1, 0, none⟩) 2 2] 23) := ⟨_, rfl⟩
  have hb4 : Below w.heap.size w w4 := by rw [hw4]; exact ((((Below.refl _ _).alloc (Nat.le_refl _) _).alloc (by simp) _).alloc (by simp; omega) _).alloc (by simp; omega) _
  have b0 : Blk w4 w.heap.size 3 #[.int .i64 1, .int .i64 0] := by rw [hw4]; exact (((Blk.new _ _ _ rfl).alloc _).alloc _).alloc _
  have b1 : Blk w4 (w.heap.size + 1) 3 #[.int .i64 0, .int .i64 1] := by rw [hw4]; exact ((Blk.new _ _ _ (by simp)).alloc _).alloc _
  have b2 : Blk w4 (w.heap.size + 1 + 1) 3 #[.int .i64 1, .int .i64 0] := by rw [hw4]; exact (Blk.new _ _ _ (by simp)).alloc _
  have b3 : Blk w4 (w.heap.size + 1 + 1 + 1) 23 #[.slice (some ⟨w.heap.size, 0, none⟩) 2 2, .slice (some ⟨w.heap.size + 1, 0, none⟩) 2 2, .slice (some ⟨w.heap.size + 1 + 1, 0, none⟩) 2 2] := by rw [hw4]; exact Blk.new _ _ _ (by simp)
  have hV : Mat w4 (some ⟨w.heap.size + 1 + 1 + 1, 0, none⟩) [[1, 0], [0, 1], [1, 0]] := by
    intro j r hj
    have hat := b3.at_
    match j, hj with
    | 0, hj =>
      have : r = [1, 0] := by simpa using hj.symm
      subst this
      obtain ⟨ad, he, hc⟩ := hat 0 _ rfl
      exact ⟨ad, _, 2, he, hc, by decide, by decide, Blk.ints (xs := [1, 0]) b0⟩
    | 1, hj =>
      have : r = [0, 1] := by simpa using hj.symm
      subst this
      obtain ⟨ad, he, hc⟩ := hat 1 _ rfl
      exact ⟨ad, _, 2, he, hc, by decide, by decide, Blk.ints (xs := [0, 1]) b1⟩
    | 2, hj =>
      have : r = [1, 0] := by simpa using hj.symm
      subst this
      obtain ⟨ad, he, hc⟩ := hat 2 _ rfl
      exact ⟨ad, _, 2, he, hc, by decide, by decide, Blk.ints (xs := [1, 0]) b2⟩
    | (j + 3), hj => simp at hj
  have HW := Lib.hid (vwin_any (some ⟨w.heap.size + 1 + 1 + 1, 0, none⟩) 3 3 2 0 _ _ w4 (.inl rfl) valB_ex blts_ex rfl hV)
  have HB := Lib.hid hb4
  clear hb4 b0 b1 b2 b3 hV
  go_enter Try.func7, Try.ntmps7
  go_wp2_with fail
  rw [← hw4]
  clear hw4
  refine HW.out.mono ?_
  rintro e w5 ⟨x, rfl, hx, hb5⟩
  have hx1 : x = 1 := by
    have h := hx.1 rfl
    rw [h]; decide
  subst hx1
  have H5 := Lib.hid (HB.out.trans (hb5.mono HB.out.size))
  clear hx hb5
  go_wp2_with fail
  go_ret
  exact ⟨rfl, H5.out⟩

/- Contract: cmp.isNaN of an int. -/

theorem isnan_any (x : Int) (w : World) : Calls Try.prog 59 #[.int .i64 x] w fun e w' => e = .returned (.bool false) ∧ w = w' := by
  have hb : (x != x) = false := by simp
  go_enter Try.func59, Try.ntmps59
  go_wp2_with fail
  go_ret
  exact ⟨rfl, rfl⟩

/- Contracts: cmp.Less and insertionSortOrdered on ints. -/

/-- The entry at j sinks below the greater ones. -/
def sink : Nat → List Int → List Int
  | 0, l => l
  | j + 1, l => if l.getD (j + 1) 0 < l.getD j 0 then sink j ((l.set (j + 1) (l.getD j 0)).set j (l.getD (j + 1) 0)) else l
/-- The first i are sorted. -/
def sortTo (l : List Int) : Nat → List Int
  | 0 => l
  | i + 1 => sink i (sortTo l i)
theorem sink_length (j : Nat) : ∀ l : List Int, (sink j l).length = l.length := by
  induction j with
  | zero => intro l; rfl
  | succ j ih => intro l; simp only [sink]; split; rw [ih]; simp; rfl
theorem sortTo_length (l : List Int) (i : Nat) : (sortTo l i).length = l.length := by
  induction i with
  | zero => rfl
  | succ i ih => simp only [sortTo]; rw [sink_length, ih]

theorem cmpless_any (x y : Int) (w : World) : Calls Try.prog 38 #[.int .i64 x, .int .i64 y] w fun e w' => e = .returned (.bool (decide (x < y))) ∧ w = w' := by
  go_enter Try.func38, Try.ntmps38
  go_wp2_with fail
  refine (isnan_any x _).mono ?_
  rintro e w' ⟨rfl, rfl⟩
  go_wp2_with fail
  go_ret
  exact ⟨rfl, rfl⟩
/-- The block of a slice: its first cells. -/
def PreB (w : World) (g m cp : Nat) (xs : List Int) : Prop := ∃ cur, Blk w g 3 cur ∧ cur.size = cp ∧ cur.toList.take m = xs.map (Value.int .i64)
theorem PreB.lt {w : World} {g m cp : Nat} {xs : List Int} (h : PreB w g m cp xs) : g < w.heap.size := by obtain ⟨cur, h, _⟩ := h; exact h.lt
theorem PreB.ints {w : World} {g m cp : Nat} {xs : List Int} (h : PreB w g m cp xs) : Ints w (some ⟨g, 0, none⟩) xs := by
  obtain ⟨cur, hB, _, ht⟩ := h
  intro i v hv
  rw [← ht] at hv
  have hv' : cur.toList[i]? = some v := by
    rw [List.getElem?_take] at hv
    split at hv
    · exact hv
    · cases hv
  exact hB.at_ i v hv'
theorem PreB.read {w : World} {g m cp : Nat} {xs : List Int} (h : PreB w g m cp xs) {k : Nat} {x : Int} (hx : xs[k]? = some x) : w.cell? ⟨g, k, none⟩ = some (.int .i64 x) := by
  obtain ⟨cur, hB, _, ht⟩ := h
  have hv : (cur.toList.take m)[k]? = some (.int .i64 x) := by rw [ht]; simp [hx]
  rw [List.getElem?_take] at hv
  split at hv
  · rw [hB.cell, ← Array.getElem?_toList]; exact hv
  · cases hv
theorem PreB.frozen {w : World} {g m cp : Nat} {xs : List Int} (h : PreB w g m cp xs) (k : Nat) : w.frozen? ⟨g, k, none⟩ = false := by obtain ⟨cur, hB, _⟩ := h; exact hB.frozen k
theorem PreB.set_ {w : World} {g m cp : Nat} {xs : List Int} (h : PreB w g m cp xs) (k : Nat) (y : Int) : PreB (w.setCell ⟨g, k, none⟩ (.int .i64 y)) g m cp (xs.set k y) := by
  obtain ⟨cur, hB, hs, ht⟩ := h
  refine ⟨_, hB.set_ k _, by simp [hs], ?_⟩
  rw [Array.toList_setIfInBounds, List.take_set, ht, List.map_set]

theorem PreB.drewN {w : World} {g m cp : Nat} {xs : List Int} (h : PreB w g m cp xs) (k : Nat) : PreB (w.drewN k) g m cp xs := h

set_option maxRecDepth 100000 in
set_option maxHeartbeats 1600000 in
theorem isort_any (g cap n : Nat) (l : List Int) (w : World) (hl : l.length = n) (hn : 1 ≤ n ∧ n ≤ 1000) (h : PreB w g n cap l) :
    Calls Try.prog 32 #[.slice (some ⟨g, 0, none⟩) n cap, .int .i64 0, .int .i64 n] w fun e w' => e = .returned (.tuple #[]) ∧ PreB w' g n cap (sortTo l n) ∧ Kept w.heap.size [g] w w' := by
  have H := Lib.hid (And.intro hl h)
  clear hl h
  go_enter Try.func32, Try.ntmps32
  go_wp2_with fail
  go_loopw [6] (fun iv wr => ∃ i : Nat, 1 ≤ i ∧ i ≤ n ∧ iv = .int .i64 i ∧ PreB wr g n cap (sortTo l i) ∧ Kept w.heap.size [g] w wr) (fun iv _ => n - (intOf iv).toNat)
  case atStart => exact ⟨1, by omega, by omega, rfl, H.out.2, Kept.refl _ _ _⟩
  case round =>
    obtain ⟨i, hi1, hi, rfl, hp, hk⟩ := hrel
    have HR := Lib.hid (And.intro hp hk)
    clear hp hk
    by_cases hlt : i < n
    · have l1 : (i : Int) < (n : Int) := by omega
      go_wp2_with fail
      go_loopw [7] (fun jv wr => ∃ (j : Nat) (L : List Int), j ≤ i ∧ jv = .int .i64 j ∧ L.length = n ∧ sink j L = sortTo l (i + 1) ∧ PreB wr g n cap L ∧ Kept w.heap.size [g] w wr) (fun jv _ => (intOf jv).toNat)
      case atStart => exact ⟨i, _, Nat.le_refl _, rfl, by rw [sortTo_length]; exact H.out.1, rfl, HR.out⟩
      case round =>
        obtain ⟨j, L, hj, rfl, hL, hs, hp, hk⟩ := hrel
        have HR2 := Lib.hid (And.intro hs (And.intro hp (And.intro hk hL)))
        clear hs hp hk
        by_cases hj0 : 0 < j
        · obtain ⟨j', rfl⟩ : ∃ j', j = j' + 1 := ⟨j - 1, by omega⟩
          obtain ⟨x, hx⟩ : ∃ x, L[j' + 1]? = some x := ⟨_, List.getElem?_eq_getElem (by omega)⟩
          obtain ⟨y, hy⟩ : ∃ y, L[j']? = some y := ⟨_, List.getElem?_eq_getElem (by omega)⟩
          have e1 := HR2.out.2.1.read hx
          have e2 := HR2.out.2.1.read hy
          have f1 := HR2.out.2.1.frozen (j' + 1)
          have f2 := HR2.out.2.1.frozen j'
          have gx : L.getD (j' + 1) 0 = x := by rw [List.getD_eq_getElem?_getD, hx]; rfl
          have gy : L.getD j' 0 = y := by rw [List.getD_eq_getElem?_getD, hy]; rfl
          have hs2 := HR2.out.1
          simp only [sink] at hs2
          rw [gx, gy] at hs2
          have hset := (HR2.out.2.1.set_ (j' + 1) y).set_ j' x
          have HS := Lib.hid (And.intro hs2 hset)
          have l2 : (0 : Int) < ((j' + 1 : Nat) : Int) := by omega
          have l3 : ((j' + 1 : Nat) : Int) < (n : Int) := by omega
          have l4 : ((j' + 1 : Nat) : Int) - 1 = (j' : Int) := by omega
          have l5 : (j' : Int) < (n : Int) := by omega
          have d0 : decide ((0 : Int) < ((j' + 1 : Nat) : Int)) = true := decide_eq_true l2
          have hq : ∀ w8, Calls Try.prog 38 #[.int .i64 x, .int .i64 y] w8 fun e w' => e = .returned (.bool (decide (x < y))) ∧ w' = w8 := fun w8 => (cmpless_any x y w8).mono fun _ _ ⟨a, b⟩ => ⟨a, b.symm⟩
          have HQ := Lib.hid hq
          clear hx hy gx gy hs2 hset hq hL
          by_cases hxy : x < y
          · have d1 : decide (x < y) = true := decide_eq_true hxy
            rw [d1] at HQ
            have hS2 := HS.out.1
            rw [if_pos hxy] at hS2
            have HS2 := Lib.hid hS2
            clear hS2
            go_wp2_with fail
            go_quiet ((go_at_call 38; exact Calls.quiet_of_same (HQ.out _)))
            go_wp2_with fail
            go_region
            all_goals go_wp2_with fail
            all_goals go_roundw
            case rel => exact ⟨j', _, by omega, by go_num, by simp [HR2.out.2.2.2], HS2.out, HS.out.2.drewN (nq + 1), ((HR2.out.2.2.1.setCell (.inl (by simp)) _).setCell (.inl (by simp)) _).drewN (nq + 1)⟩
            case measure => simp [intOf]
          · have d1 : decide (x < y) = false := decide_eq_false hxy
            rw [d1] at HQ
            have hS2 := HS.out.1
            rw [if_neg hxy] at hS2
            have HS2 := Lib.hid hS2
            clear hS2
            go_wp2_with fail
            go_quiet ((go_at_call 38; exact Calls.quiet_of_same (HQ.out _)))
            go_wp2_with fail
            go_roundw
            case rel => exact ⟨i + 1, by omega, by omega, by go_num, by rw [← HS2.out]; exact HR2.out.2.1.drewN nq, HR2.out.2.2.1.drewN nq⟩
            case measure => simp [intOf]; omega
        · obtain rfl : j = 0 := by omega
          have hS2 := HR2.out.1
          simp only [sink] at hS2
          have HS2 := Lib.hid hS2
          have d0 : decide ((0 : Int) < 0) = false := by decide
          clear hS2
          go_wp2_with fail
          go_quiet (fail)
          go_wp2_with fail
          go_roundw
          case rel => exact ⟨i + 1, by omega, by omega, by go_num, by rw [← HS2.out]; exact HR2.out.2.1.drewN nq, HR2.out.2.2.1.drewN nq⟩
          case measure => simp [intOf]; omega
    · obtain rfl : n = i := by omega
      go_wp2_with fail
      go_end0
      exact ⟨rfl, HR.out⟩

/- Contract: pdqsortOrdered on 12 ints or fewer. -/

set_option maxRecDepth 100000 in
set_option maxHeartbeats 1600000 in
theorem pdq_any (g cap n : Nat) (lim : Int) (l : List Int) (w : World) (hl : l.length = n) (hn : 1 ≤ n ∧ n ≤ 12) (h : PreB w g n cap l) :
    Calls Try.prog 19 #[.slice (some ⟨g, 0, none⟩) n cap, .int .i64 0, .int .i64 n, .int .i64 lim] w fun e w' => e = .returned (.tuple #[]) ∧ PreB w' g n cap (sortTo l n) ∧ Kept w.heap.size [g] w w' := by
  have H := Lib.hid (And.intro hl h)
  clear hl h
  go_enter Try.func19, Try.ntmps19
  go_wp2_with fail
  refine wp_loop_rounds 1 ?_
  rw [rounds_succ]
  go_wp2_with fail
  refine (isort_any g cap n l w H.out.1 (by omega) H.out.2).mono ?_
  rintro e w1 ⟨rfl, h1, h2⟩
  have H1 := Lib.hid (And.intro h1 h2)
  clear h1 h2
  go_wp2_with fail
  (try simp only [Exit.inBlock, Exit.then])
  refine bodyPost_ret (results_none rfl _ _ _) rfl ?_
  exact ⟨rfl, H1.out⟩

/- Insertion sort: sorted, and a permutation. Plain Lean. -/

theorem swap_perm : ∀ (j : Nat) (l : List Int), j + 1 < l.length → ((l.set (j + 1) (l.getD j 0)).set j (l.getD (j + 1) 0)).Perm l
  | 0, a :: b :: t, _ => by
    show (b :: a :: t).Perm (a :: b :: t)
    exact List.Perm.swap a b t
  | 0, [_], h => by simp at h
  | 0, [], h => by simp at h
  | j + 1, [], h => by simp at h
  | j + 1, a :: l, h => by
    have := swap_perm j l (by simpa using h)
    show (a :: ((l.set (j + 1) (l.getD j 0)).set j (l.getD (j + 1) 0))).Perm (a :: l)
    exact this.cons a
theorem sink_perm (j : Nat) : ∀ l : List Int, j < l.length → (sink j l).Perm l := by
  induction j with
  | zero => intro l _; exact List.Perm.refl _
  | succ j ih =>
    intro l h
    simp only [sink]
    split
    · exact (ih _ (by simp; omega)).trans (swap_perm j l h)
    · exact List.Perm.refl _
theorem sortTo_perm (l : List Int) (i : Nat) (hi : i ≤ l.length) : (sortTo l i).Perm l := by
  induction i with
  | zero => exact List.Perm.refl _
  | succ i ih =>
    simp only [sortTo]
    exact (sink_perm i _ (by rw [sortTo_length]; omega)).trans (ih (by omega))
theorem sink_sorted (i j : Nat) : ∀ l : List Int, j ≤ i → i < l.length → (∀ a b, a < b → b ≤ i → b ≠ j → l.getD a 0 ≤ l.getD b 0) → ∀ a b, a < b → b ≤ i → (sink j l).getD a 0 ≤ (sink j l).getD b 0 := by
  induction j with
  | zero => intro l _ _ h a b hab hb; exact h a b hab hb (by omega)
  | succ j ih =>
    intro l hj hi h
    simp only [sink]
    by_cases hlt : l.getD (j + 1) 0 < l.getD j 0
    · rw [if_pos hlt]
      have hg : ∀ k, ((l.set (j + 1) (l.getD j 0)).set j (l.getD (j + 1) 0)).getD k 0 = if k = j then l.getD (j + 1) 0 else if k = j + 1 then l.getD j 0 else l.getD k 0 := by
        intro k
        rw [List.getD_eq_getElem?_getD, List.getElem?_set]
        by_cases e : j = k
        · rw [if_pos e, if_pos e.symm, if_pos (by simp; omega)]; rfl
        · rw [if_neg e, if_neg (fun h => e h.symm), List.getElem?_set]
          by_cases e2 : j + 1 = k
          · rw [if_pos e2, if_pos e2.symm, if_pos (by omega)]; rfl
          · rw [if_neg e2, if_neg (fun h => e2 h.symm), ← List.getD_eq_getElem?_getD]
      refine ih _ (by omega) (by simp; omega) fun a b hab hb hbj => ?_
      rw [hg, hg, if_neg hbj]
      by_cases e1 : b = j + 1
      · rw [if_pos e1]
        by_cases e2 : a = j
        · rw [if_pos e2]; omega
        · rw [if_neg e2, if_neg (by omega)]
          exact h a j (by omega) (by omega) (by omega)
      · rw [if_neg e1]
        by_cases e2 : a = j
        · rw [if_pos e2]; exact h (j + 1) b (by omega) hb e1
        · rw [if_neg e2]
          by_cases e3 : a = j + 1
          · rw [if_pos e3]; exact h j b (by omega) hb e1
          · rw [if_neg e3]; exact h a b hab hb e1
    · rw [if_neg hlt]
      intro a b hab hb
      by_cases e : b = j + 1
      · subst e
        by_cases e2 : a = j
        · subst e2; omega
        · have := h a j (by omega) (by omega) (by omega)
          omega
      · exact h a b hab hb e
theorem sortTo_sorted (l : List Int) (i : Nat) (hi : i ≤ l.length) : ∀ a b, a < b → b < i → (sortTo l i).getD a 0 ≤ (sortTo l i).getD b 0 := by
  induction i with
  | zero => intro a b _ hb; omega
  | succ i ih =>
    intro a b hab hb
    simp only [sortTo]
    exact sink_sorted i i (sortTo l i) (Nat.le_refl _) (by rw [sortTo_length]; omega) (fun a b hab hb hne => ih (by omega) a b hab (by omega)) a b hab (by omega)

/- slices.Sort on up to 12 natural numbers, at least one. -/

theorem sortN (ps : List Nat) : ∃ s : List Nat, sortTo (intL ps) ps.length = intL s ∧ s.Perm ps ∧ s.Pairwise (· ≤ ·) := by
  have hp := sortTo_perm (intL ps) ps.length (by rw [intL_length]; exact Nat.le_refl _)
  have hs := sortTo_sorted (intL ps) ps.length (by rw [intL_length]; exact Nat.le_refl _)
  obtain ⟨L, hL⟩ : ∃ L, L = sortTo (intL ps) ps.length := ⟨_, rfl⟩
  rw [← hL] at hp hs ⊢
  have hnn : ∀ x ∈ L, 0 ≤ x := fun x hx => by
    obtain ⟨y, _, rfl⟩ := List.mem_map.1 (hp.mem_iff.1 hx)
    exact Int.natCast_nonneg y
  have hLl : L.length = ps.length := by rw [hp.length_eq, intL_length]
  refine ⟨L.map Int.toNat, ?_, ?_, ?_⟩
  · unfold intL
    rw [List.map_map]
    conv => lhs; rw [← List.map_id L]
    apply List.map_congr_left
    intro x hx
    have := hnn x hx
    show x = ((x.toNat : Nat) : Int)
    omega
  · have h := hp.map Int.toNat
    have e : (intL ps).map Int.toNat = ps := by
      unfold intL
      rw [List.map_map]
      conv => rhs; rw [← List.map_id ps]
      apply List.map_congr_left
      intro x _
      rfl
    rwa [e] at h
  · rw [List.pairwise_map, List.pairwise_iff_getElem]
    intro i j hi hj hij
    have := hs i j hij (by omega)
    rw [List.getD_eq_getElem?_getD, List.getD_eq_getElem?_getD, List.getElem?_eq_getElem hi, List.getElem?_eq_getElem hj] at this
    simp only [Option.getD_some] at this
    omega

set_option maxRecDepth 100000 in
set_option maxHeartbeats 1600000 in
theorem blen64V_any (n : Nat) (hn : n ≤ 12) (w : World) : Calls Try.prog 42 #[.int .u64 n] w fun e w' => (∃ k : Int, e = .returned (.int .i64 k)) ∧ w = w' := by
  have h1 : ¬ (4294967296 : Int) ≤ (n : Int) := by omega
  have h2 : ¬ (65536 : Int) ≤ (n : Int) := by omega
  have h3 : ¬ (256 : Int) ≤ (n : Int) := by omega
  have h : n = 0 ∨ n = 1 ∨ n = 2 ∨ n = 3 ∨ n = 4 ∨ n = 5 ∨ n = 6 ∨ n = 7 ∨ n = 8 ∨ n = 9 ∨ n = 10 ∨ n = 11 ∨ n = 12 := by omega
  rcases h with rfl | rfl | rfl | rfl | rfl | rfl | rfl | rfl | rfl | rfl | rfl | rfl | rfl
  all_goals
    go_enter Try.func42, Try.ntmps42
    go_wp2_with fail
    go_ret
    exact ⟨⟨_, rfl⟩, rfl⟩
theorem blenV_any (n : Nat) (hn : n ≤ 12) (w : World) : Calls Try.prog 20 #[.int .u64 n] w fun e w' => (∃ k : Int, e = .returned (.int .i64 k)) ∧ w = w' := by
  go_enter Try.func20, Try.ntmps20
  go_wp2_with fail
  refine (blen64V_any n hn w).mono ?_
  rintro e w' ⟨⟨k, rfl⟩, rfl⟩
  go_wp2_with fail
  go_ret
  exact ⟨⟨_, rfl⟩, rfl⟩
set_option maxRecDepth 100000 in
set_option maxHeartbeats 1600000 in
theorem ssortV_any (g cap n : Nat) (l : List Int) (w : World) (hl : l.length = n) (hn : 1 ≤ n ∧ n ≤ 12) (h : PreB w g n cap l) :
    Calls Try.prog 9 #[.slice (some ⟨g, 0, none⟩) n cap] w fun e w' => e = .returned (.tuple #[]) ∧ PreB w' g n cap (sortTo l n) ∧ Kept w.heap.size [g] w w' := by
  have H := Lib.hid (And.intro hl h)
  clear hl h
  go_enter Try.func9, Try.ntmps9
  go_wp2_with fail
  refine (blenV_any n hn.2 w).mono ?_
  rintro e w' ⟨⟨k, rfl⟩, rfl⟩
  go_wp2_with fail
  refine (pdq_any g cap n k l w H.out.1 (by omega) H.out.2).mono ?_
  rintro e w1 ⟨rfl, h1, h2⟩
  have H1 := Lib.hid (And.intro h1 h2)
  clear h1 h2
  go_wp2_with fail
  go_end0
  exact ⟨rfl, H1.out⟩
/-- slices.Sort on what the call owns. -/
theorem ssortV_own {w : World} {base n cap : Nat} {A : Option Addr} {l : List Int} (hl : l.length = n) (hn : 1 ≤ n ∧ n ≤ 12) (hown : w.ownsRow base 3 1 (.slice A n cap) n (l.map (Value.int .i64))) :
    Calls Try.prog 9 #[.slice A n cap] w fun e w' => e = .returned (.tuple #[]) ∧ Ints w' A (sortTo l n) ∧ Below base w w' := by
  rcases hown.2 with ⟨h0, h1⟩ | ⟨g, cap', cur, hv, h1, h2, h3, h4, h5, h6⟩
  · omega
  · injection hv with e1 _ e3
    subst e1; subst e3
    refine (ssortV_any g cap n l w hl hn ⟨cur, h2, by rw [h5, Nat.mul_one], by rw [← h6, Nat.mul_one]⟩).mono ?_
    rintro e w' ⟨rfl, h7, h8⟩
    exact ⟨rfl, h7.ints, (h8.mono (B' := base) (S' := []) (by have := lt_of_block h2; omega) (fun x hx => by rw [List.mem_singleton.1 hx]; exact .inr h1)).below⟩

/- TopMiddle: the walk. -/

/-- The places of the first ones of r ballots. -/
def plc (po : List Nat) (B : List (List Nat)) (r : Nat) : List Nat := (B.take r).map (Mid.pk po)
theorem plc_succ {po : List Nat} {B : List (List Nat)} {r : Nat} (h : r < B.length) : plc po B (r + 1) = plc po B r ++ [po.idxOf ((B.getD r []).getD 0 0)] := by
  have hg : B[r]? = some (B.getD r []) := by rw [List.getD_eq_getElem?_getD, List.getElem?_eq_getElem h]; rfl
  unfold plc
  rw [List.take_add_one, hg, List.map_append]
  rfl
theorem plc_length {po : List Nat} {B : List (List Nat)} {r : Nat} (h : r ≤ B.length) : (plc po B r).length = r := by
  unfold plc; rw [List.length_map, List.length_take]; omega

theorem intL_snocV (b : List Nat) (x : Nat) : (intL (b ++ [x])).map (Value.int .i64) = (intL b).map (Value.int .i64) ++ [.int .i64 (x : Int)] := by simp [intL]

set_option maxRecDepth 100000 in
set_option maxHeartbeats 4000000 in
theorem law_tmiddle (A : Option Addr) (n cap : Nat) (V : List (List Int)) (W : World) (hl : V.length = n) (hn : n ≤ 9223372036854775807) (hV : Mat W A V) :
    Calls Try.prog 3 #[.slice A n cap] W fun e w' => e = .returned (.bool true) ∧ Below W.heap.size W w' := by
  have H := Lib.hid (And.intro hl hV)
  clear hl hV
  go_enter Try.func3, Try.ntmps3
  go_wp2_with fail
  refine (tballots_any A n cap V _ H.out.1 hn H.out.2).mono ?_
  rintro e w1 ⟨A1, q1, c1, rfl, hq1, hq11, hqc, hcm, hM1, hb1⟩
  have H1 := Lib.hid (And.intro hq1 (And.intro hM1 hb1))
  clear hq1 hM1 hb1
  go_wp2_with fail
  refine (vaxis0_any A1 q1 c1 (cutB V) _ H1.out.1 (by omega) H1.out.2.1).mono ?_
  rintro e w2 ⟨hb2, rfl | rfl | ⟨k, B, gc, ca, po, hval, hBl, rfl, hI2, hodr, hno, hka, hka2⟩⟩
  · have H2 := Lib.hid (H1.out.2.2.trans (hb2.mono H1.out.2.2.size))
    clear hb2
    go_wp2_with fail
    refine (tcounts_any _).mono ?_
    rintro e w3 ⟨rfl, hb3⟩
    have H3 := Lib.hid (H2.out.trans (hb3.mono H2.out.size))
    clear hb3
    go_wp2_with fail
    go_ret
    exact ⟨rfl, H3.out⟩
  · have H2 := Lib.hid (H1.out.2.2.trans (hb2.mono H1.out.2.2.size))
    clear hb2
    go_wp2_with fail
    refine (tcounts_any _).mono ?_
    rintro e w3 ⟨rfl, hb3⟩
    have H3 := Lib.hid (H2.out.trans (hb3.mono H2.out.size))
    clear hb3
    go_wp2_with fail
    go_ret
    exact ⟨rfl, H3.out⟩
  · have hbW2 := H1.out.2.2.trans (hb2.mono H1.out.2.2.size)
    have HVAL := Lib.hid hval
    clear hval
    have H2 := Lib.hid (And.intro hBl (And.intro hI2 (And.intro hodr (And.intro hno (And.intro hbW2 (H.out.2.below hbW2))))))
    clear hBl hI2 hodr hno hbW2 hb2
    go_wp2_with fail
    refine (r3valid_any A n cap V _ H.out.1 hn H2.out.2.2.2.2.2).mono ?_
    rintro e w' ⟨⟨b, rfl, hb⟩, rfl⟩
    cases b
    · clear hb
      go_wp2_with fail
      refine (tcounts_any _).mono ?_
      rintro e w3 ⟨rfl, hb3⟩
      have H3 := Lib.hid (H2.out.2.2.2.2.1.trans (hb3.mono H2.out.2.2.2.2.1.size))
      clear hb3
      go_wp2_with fail
      go_ret
      exact ⟨rfl, H3.out⟩
    · obtain ⟨hn1, hn9, hr5⟩ := hb rfl
      have hcut : cutB V = V := cutB_small (by rw [H.out.1]; omega) (fun r hr => by have := hr5 r hr; omega)
      clear hb
      by_cases hpar : n % 2 = 0
      · have m1 : ((n : Int).tmod 2 == 0) = true := by rw [beq_iff_eq, Int.tmod_eq_emod_of_nonneg (by omega)]; omega
        have m2 : ((n : Int) % 2 == 0) = true := by rw [beq_iff_eq]; omega
        clear hcut hr5
        go_wp2_with fail
        refine (tcounts_any _).mono ?_
        rintro e w3 ⟨rfl, hb3⟩
        have H3 := Lib.hid (H2.out.2.2.2.2.1.trans (hb3.mono H2.out.2.2.2.2.1.size))
        clear hb3
        go_wp2_with fail
        go_ret
        exact ⟨rfl, H3.out⟩
      · have m1 : ((n : Int).tmod 2 == 0) = false := by rw [beq_eq_false_iff_ne, Int.tmod_eq_emod_of_nonneg (by omega)]; omega
        have m2 : ((n : Int) % 2 == 0) = false := by rw [beq_eq_false_iff_ne]; omega
        obtain ⟨hBl0, hI2, hodr, hno, hbW2, hV2⟩ := H2.out
        rw [hcut] at hBl0
        have hk5 := hBl0.hn
        have hBn : B.length = n := by have := hBl0.len; have := H.out.1; omega
        have hall : valB V = true := by rw [← hcut]; exact HVAL.out
        have H4 := Lib.hid (And.intro hBl0 (And.intro hI2 (And.intro hodr (And.intro hno (And.intro hbW2 (And.intro hV2 (And.intro hBn (And.intro hall hcut))))))))
        clear hBl0 hI2 hodr hno hbW2 hV2 hBn hall hcut hr5 H2
        go_upto_region 6 with fail
        go_loopw [5, 53] (fun ov iv wr => ∃ (r : Nat) (P : Option Addr) (pc : Nat), r ≤ n ∧ iv = .int .i64 (r : Int) ∧ ov = .slice P r pc ∧ wr.ownsRow w2.heap.size 3 1 (.slice P r pc) r ((intL (plc po B r)).map (Value.int .i64)) ∧ Below w2.heap.size w2 wr) (fun _ iv _ => n - (intOf iv).toNat)
        case atStart => exact ⟨0, none, 0, Nat.zero_le _, rfl, rfl, by simpa [plc, intL] using World.ownsRow_nil _ _ _ _, Below.refl _ _⟩
        case round =>
          obtain ⟨r, P, pc, hr, rfl, rfl, hown, hbl⟩ := hrel
          have HR := Lib.hid (And.intro hown hbl)
          have hwsz := hbl.size
          clear hown hbl
          by_cases hlt : r < n
          · have hrB : r < B.length := by have := H4.out.2.2.2.2.2.2.1; omega
            have hob := H4.out.1.at_ hrB
            obtain ⟨ad, A', c', rfl, hcell, hrc, hcm', hIr⟩ := H4.out.2.2.2.2.2.1 r _ (H4.out.1.get hrB)
            have hps := plc_succ (po := po) hrB
            obtain ⟨b, hbe⟩ : ∃ b, b = B.getD r [] := ⟨_, rfl⟩
            rw [← hbe] at hob hcell hrc hIr hps
            rw [show (intL b).length = k by rw [intL_length, hob.len]] at hcell hrc
            have c0 := (HR.out.2.cell (lt_of_cell hcell)).trans hcell
            obtain ⟨ab, rfl, hab, hcs⟩ := hIr.some_ (by rw [intL_length, hob.len]; omega)
            obtain ⟨x, hx⟩ : ∃ x, x = b.getD 0 0 := ⟨_, rfl⟩
            have hxk : x < k := by rw [hx]; exact hob.get_lt (by omega)
            have h1 := hcs 0 ((b.getD 0 0 : Nat) : Int) (intL_some (by rw [List.getD_eq_getElem?_getD, List.getElem?_eq_getElem (by rw [hob.len]; omega)]; rfl))
            rw [← hx] at h1 hps
            have c1' : wr.cell? ab = some (.int .i64 (x : Int)) := (HR.out.2.cell (lt_of_cell h1)).trans h1
            have hix := idx_intL ((H4.out.2.2.1.mem x).2 hxk)
            have HIX := Lib.hid (index_any (some ⟨gc, 0, none⟩) k ca (intL po) (x : Int) wr (by rw [intL_length]; exact H4.out.2.2.1.len) (by omega) (H4.out.2.1.below HR.out.2))
            rw [hix] at HIX
            obtain ⟨y, hy⟩ : ∃ y, y = po.idxOf x := ⟨_, rfl⟩
            rw [← hy] at HIX hps
            have HPS := Lib.hid hps
            have l1 : (r : Int) < (n : Int) := by omega
            have l2 : (0 : Int) < (k : Int) := by omega
            clear hrB hob hcell hIr hps hbe hcs hx hxk h1 hix hy
            go_wp2_with fail
            refine HIX.out.mono ?_
            rintro e w' ⟨rfl, rfl⟩
            go_wp2_with (at_builtin; refine app1 sty_int rfl _ _ rfl w2.heap.size P r pc _ #[.int .i64 (y : Int)] rfl (by simp [Value.oneCell']) rfl HR.out.1 rfl (by omega) (by omega) ?_)
            intro A5 k5' w5 hown5 _ hbl5 hk51 hk52
            have hown5' : w5.ownsRow w2.heap.size 3 1 (.slice A5 (r + 1) k5') (r + 1) ((intL (plc po B (r + 1))).map (Value.int .i64)) := by rw [HPS.out, intL_snocV]; exact hown5
            have HR5 := Lib.hid (And.intro hown5' (HR.out.2.trans hbl5))
            clear hown5 hown5' hbl5
            go_wp2_with fail
            go_roundw
            case rel => exact ⟨r + 1, A5, k5', by omega, by go_num, rfl, HR5.out.1, HR5.out.2⟩
            case measure => simp [intOf]; omega
          · obtain rfl : r = n := by omega
            have l1 : ¬ (r : Int) < (r : Int) := by omega
            obtain ⟨s, hs1, hs2, hs3⟩ := sortN (plc po B r)
            have hpl : (plc po B r).length = r := plc_length (by have := H4.out.2.2.2.2.2.2.1; omega)
            rw [hpl] at hs1
            have hpk : (plc po B r) = B.map (Mid.pk po) := by
              unfold plc
              rw [List.take_of_length_le (by have := H4.out.2.2.2.2.2.2.1; omega)]
            rw [hpk] at hs2
            have hsl : s.length = r := by rw [hs2.length_eq, List.length_map]; exact H4.out.2.2.2.2.2.2.1
            obtain ⟨hat, hwin⟩ := Mid.middle_wins H4.out.2.2.1 H4.out.1.odr H4.out.2.2.2.1 (by have := H4.out.2.2.2.2.2.2.1; omega) hs3 hs2 (by omega)
            rw [hsl] at hat hwin
            obtain ⟨a, hae⟩ : ∃ a, a = s.getD (r / 2) 0 := ⟨_, rfl⟩
            rw [← hae] at hat hwin
            obtain ⟨m, hme⟩ : ∃ m, m = po.getD a 0 := ⟨_, rfl⟩
            rw [← hme] at hwin
            have hmk : m < k := by rw [hme]; exact H4.out.2.2.1.get_lt hat
            have HSORT := Lib.hid (ssortV_own (w := wr) (base := w2.heap.size) (n := r) (cap := pc) (A := P) (l := intL (plc po B r)) (by rw [intL_length]; exact hpl) (by omega) HR.out.1)
            rw [hs1] at HSORT
            have HS := Lib.hid (And.intro hsl (And.intro hwin (And.intro hae hme)))
            clear hs1 hs2 hs3 hpl hpk hsl hwin hae hme m1 m2
            go_wp2_with fail
            refine HSORT.out.mono ?_
            rintro e w5 ⟨rfl, hI5, hb5⟩
            have hb25 : Below w2.heap.size w2 w5 := HR.out.2.trans hb5
            obtain ⟨aP, rfl, hab, hcs⟩ := hI5.some_ (by rw [intL_length, HS.out.1]; omega)
            have hq1 : (r : Int).tdiv 2 = ((r / 2 : Nat) : Int) := by rw [Int.tdiv_eq_ediv_of_nonneg (by omega)]; omega
            have hq2 : (r : Int) / 2 = ((r / 2 : Nat) : Int) := by omega
            obtain ⟨h2, hh2⟩ : ∃ h2, h2 = r / 2 := ⟨_, rfl⟩
            have hh2r : h2 < r := by omega
            have c0 : w5.cell? (aP.add h2) = some (.int .i64 (a : Int)) := hcs h2 _ (intL_some (by rw [HS.out.2.2.1, hh2, List.getD_eq_getElem?_getD, List.getElem?_eq_getElem (by rw [HS.out.1]; omega)]; rfl))
            rw [← hh2] at hq1 hq2
            have c3 : w5.cell? ((⟨gc, 0, none⟩ : Addr).add a) = some (.int .i64 (m : Int)) := by
              obtain ⟨ad, he, hc⟩ := (H4.out.2.1.below hb25) a (.int .i64 (m : Int)) (by rw [List.getElem?_map, intL_some (x := m) (by rw [HS.out.2.2.2, List.getD_eq_getElem?_getD, List.getElem?_eq_getElem (by rw [H4.out.2.2.1.len]; exact hat)]; rfl)]; rfl)
              injection he with he
              rw [he]; exact hc
            have e3 : (⟨gc, 0, none⟩ : Addr).add a = ⟨gc, a, none⟩ := by
              unfold Addr.add
              split
              · rename_i h; rw [h]
              · simp
            rw [e3] at c3
            have H5 := Lib.hid (And.intro (H4.out.2.2.2.2.1.trans (hb25.mono H4.out.2.2.2.2.1.size)) (H4.out.2.2.2.2.2.1.below hb25))
            have l2 : (h2 : Int) < (r : Int) := by omega
            have l3 : (a : Int) < (k : Int) := by omega
            clear hI5 hb5 hb25 hcs hh2 e3
            go_upto_region 15 with fail
            have hcut := H4.out.2.2.2.2.2.2.2.2
            have hmw : ∀ x, x < k → x ≠ m → 0 < mmF k B m x ∧ mmF k B x m < 0 := fun x hx hxm => by
              have h := HS.out.2.1 x hx hxm
              unfold mmF
              rw [if_pos ⟨hmk, hx⟩, if_pos ⟨hx, hmk⟩, Mid.mg_swap B m x]; omega
            have hpath : Mid.pathF k (Mid.wdK k (mmF k B) k) = m := Mid.path_win hmk (Mid.wd_win hmw)
            obtain ⟨bk, lk, hk1, hk2, hk3⟩ := Mid.kem_first hmk HS.out.2.1
            have HM := Lib.hid (And.intro hcut (And.intro hpath (And.intro hk1 (And.intro hk2 hk3))))
            clear hcut hmw hpath hk1 hk2 hk3 hq1 hq2 c0 c3 l2 l3
            go_wp2_with fail
            refine (tballots_any A r cap V _ H.out.1 hn H5.out.2).mono ?_
            rintro e w6 ⟨A6, q6, c6, rfl, hq6, _, _, _, hM6, hb6⟩
            rw [HM.out.1] at hq6 hM6
            have H6 := Lib.hid (And.intro hq6 (And.intro hM6 (And.intro (H5.out.1.trans (hb6.mono H5.out.1.size)) (H5.out.2.below hb6))))
            clear hq6 hM6 hb6
            go_wp2_with fail
            refine (vwin_any A6 q6 c6 k 2 V B _ (.inr (.inl rfl)) H4.out.2.2.2.2.2.2.2.1 H4.out.1 H6.out.1 H6.out.2.1).mono ?_
            rintro e w7 ⟨x7, rfl, hx7, hb7⟩
            have e7 : x7 = m := by rw [hx7.2.1 rfl]; exact HM.out.2.1
            subst e7
            have H7 := Lib.hid (And.intro (H6.out.2.2.1.trans (hb7.mono H6.out.2.2.1.size)) (H6.out.2.2.2.below hb7))
            clear hx7 hb7
            go_wp2_with fail
            refine (tballots_any A r cap V _ H.out.1 hn H7.out.2).mono ?_
            rintro e w8 ⟨A8, q8, c8, rfl, hq8, _, _, _, hM8, hb8⟩
            rw [HM.out.1] at hq8 hM8
            have H8 := Lib.hid (And.intro hq8 (And.intro hM8 (And.intro (H7.out.1.trans (hb8.mono H7.out.1.size)) (H7.out.2.below hb8))))
            clear hq8 hM8 hb8
            go_wp2_with fail
            refine (vwin_any A8 q8 c8 k 3 V B _ (.inr (.inr rfl)) H4.out.2.2.2.2.2.2.2.1 H4.out.1 H8.out.1 H8.out.2.1).mono ?_
            rintro e w9 ⟨x9, rfl, hx9, hb9⟩
            have e9 : x9 = m := by
              obtain ⟨b9, l9, h1, h2⟩ := hx9.2.2 rfl
              rw [HM.out.2.2.1] at h2
              injection h2 with h2
              injection h2 with h2 _
              rw [h1, ← h2, HM.out.2.2.2.2]
            subst e9
            have H9 := Lib.hid (And.intro (H8.out.2.2.1.trans (hb9.mono H8.out.2.2.1.size)) (H8.out.2.2.2.below hb9))
            clear hx9 hb9
            go_wp2_with fail
            refine (tballots_any A r cap V _ H.out.1 hn H9.out.2).mono ?_
            rintro e wa ⟨Aa, qa, ca2, rfl, hqa, _, _, _, hMa, hba⟩
            rw [HM.out.1] at hqa hMa
            have Ha := Lib.hid (And.intro hqa (And.intro hMa (And.intro (H9.out.1.trans (hba.mono H9.out.1.size)) (H9.out.2.below hba))))
            clear hqa hMa hba
            go_wp2_with fail
            refine (vbest_any Aa qa ca2 k m V B _ H4.out.2.2.2.2.2.2.2.1 H4.out.1 Ha.out.1 Ha.out.2.1 hmk HS.out.2.1).mono ?_
            rintro e wb ⟨rfl, hbb⟩
            have Hb := Lib.hid (And.intro (Ha.out.2.2.1.trans (hbb.mono Ha.out.2.2.1.size)) (Ha.out.2.2.2.below hbb))
            clear hbb
            go_wp2_with fail
            refine (tballots_any A r cap V _ H.out.1 hn Hb.out.2).mono ?_
            rintro e wc ⟨Ac, qc, cc, rfl, hqc', _, _, _, hMc, hbc⟩
            rw [HM.out.1] at hqc' hMc
            have Hc := Lib.hid (And.intro hqc' (And.intro hMc (And.intro (Hb.out.1.trans (hbc.mono Hb.out.1.size)) (Hb.out.2.below hbc))))
            clear hqc' hMc hbc
            go_wp2_with fail
            refine (vkemeny0_any Ac qc cc k V B _ H4.out.2.2.2.2.2.2.2.1 H4.out.1 Hc.out.1 Hc.out.2.1).mono ?_
            rintro e wd ⟨gd, cd, bd, ld, rfl, hsd, hId, hcd1, hcd2, hbd⟩
            have ed : bd = bk := by
              rw [HM.out.2.2.1] at hsd
              injection hsd with h
              injection h with h _
              exact h.symm
            have c0 : wd.cell? ⟨gd, 0, none⟩ = some (.int .i64 (m : Int)) := by
              obtain ⟨ad, he, hc⟩ := hId 0 (.int .i64 (m : Int)) (by rw [List.getElem?_map, intL_some (x := m) (by
                rw [ed, ← HM.out.2.2.2.2, List.getD_eq_getElem?_getD, List.getElem?_eq_getElem (by rw [HM.out.2.2.2.1.len]; omega)]; rfl)]; rfl)
              injection he with he
              rw [he]; exact hc
            have hpm : IntKind.i64.wrap ((2 : Int) ^ m) = (2 : Int) ^ m := by rw [pow_wrap m (by omega)]; simp
            have l2 : (0 : Int) < (k : Int) := by omega
            have Hd := Lib.hid (Hc.out.2.2.1.trans (hbd.mono Hc.out.2.2.1.size))
            clear hsd hId hbd ed
            go_wp2_with fail
            refine (tcounts_any _).mono ?_
            rintro e we ⟨rfl, hbe⟩
            have He := Lib.hid (Hd.out.trans (hbe.mono Hd.out.size))
            clear hbe
            go_wp2_with fail
            go_ret
            exact ⟨rfl, He.out⟩
theorem law_tmiddle0 (A : Option Addr) (n cap : Nat) (V : List (List Int)) (W : World) (hl : V.length = n) (hc : n ≤ cap) (hm : cap ≤ 9223372036854775807) (hV : Mat W A V) (_ : ∀ r ∈ V, ∀ x ∈ r, -9223372036854775808 ≤ x ∧ x ≤ 9223372036854775807) :
    Calls Try.prog 3 #[.slice A n cap] W fun e w' => e = .returned (.bool true) ∧ Below W.heap.size W w' := law_tmiddle A n cap V W hl (by omega) hV
end Go.Proofs.Ytpoibiakfjkebaa
