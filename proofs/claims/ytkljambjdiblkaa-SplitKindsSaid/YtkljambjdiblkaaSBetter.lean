/- Contract: Better of package split. -/
import Derived.Test.YtkljambjdiblkaaSRBetter
import Derived.Test.YtkljambjdiblkaaSBest
import Derived.Test.YtkljambjdiblkaaSNash
import Derived.Test.YtkljambjdiblkaaSDivision
import Derived.Test.YtkljambjdiblkaaCloneD
import Derived.Test.YtkljambjdiblkaaEqualI
namespace Go.Proofs.Ytkljambjdiblkaa
open Go.RowKit

def binv (G : Nat) (w0 : World) (n m : Nat) (V : List (List Int)) (d : List Int) (wv : Value) (t : Nat) (w : World) : Prop :=
  Below G w0 w ∧ Blk w G 23 #[wv] ∧ Blk w (G + 1) 64 #[.slice none 0 0] ∧ ∀ s, s < t → better V d (dz n m s) = false
def bdone (G : Nat) (w0 : World) (n m : Nat) (V : List (List Int)) (d : List Int) (w : World) : Prop :=
  ∃ t A c, t < n ^ m ∧ (∀ s, s < t → better V d (dz n m s) = false) ∧ better V d (dz n m t) = true ∧ Blk w (G + 1) 64 #[.slice (some A) m c] ∧ m ≤ c ∧ c ≤ 9223372036854775807 ∧ Ints w (some A) (dz n m t) ∧ Below G w0 w
theorem binv_set {G : Nat} {w0 : World} {n m : Nat} {V : List (List Int)} {d : List Int} {wv : Value} {t : Nat} {w : World} (h : binv G w0 n m V d wv t w) (i : Nat) (v : Value) : binv G w0 n m V d wv t (w.setCell ⟨G + 2, i, none⟩ v) :=
  ⟨h.1.setCell (by show G ≤ G + 2; omega) _, h.2.1.far (by show G ≠ G + 2; omega) _, h.2.2.1.far (by show G + 1 ≠ G + 2; omega) _, h.2.2.2⟩

set_option maxRecDepth 100000 in
set_option maxHeartbeats 1600000 in
theorem sbetter1_any (G Bv n m cap cw : Nat) (A Aw : Option Addr) (V : List (List Int)) (d : List Int) (w0 : World) (t : Nat) (w : World) (ht : t < n ^ m)
    (hl : V.length = n) (hn : 1 ≤ n ∧ n ≤ 4) (hm7 : 1 ≤ m ∧ m ≤ 7) (hr : ∀ i, i < n → (rowV V i).length = m ∧ ∀ x ∈ rowV V i, 0 ≤ x ∧ x ≤ 100)
    (hG : w0.heap.size = G) (hv : w0.cell? ⟨Bv, 0, none⟩ = some (.slice A n cap)) (hV : Mat w0 A V) (hW : Ints w0 Aw (ownV V d n))
    (hinv : binv G w0 n m V d (.slice Aw n cw) t w) (hD : Blk w (G + 2) 3 (arr (dz n m t))) :
    Calls Try.prog 52 #[.slice (some ⟨G + 2, 0, none⟩) m m, .pointer (some ⟨Bv, 0, none⟩), .pointer (some ⟨G, 0, none⟩), .pointer (some ⟨G + 1, 0, none⟩)] w (EachPost (binv G w0 n m V d (.slice Aw n cw)) (bdone G w0 n m V d) n m t (G + 2)) := by
  have qT : ∀ (w : World) (a : Option Addr) (n c n' c' : Nat), (binOp .eql 64 (.slice a n c) (.slice none n' c')).run Try.prog w = .ok (.bool a.isNone) w := fun w a n c n' c' => Lib.run_eql_slice_nil w _ _ a n c n' c' Try.underlying64
  obtain ⟨hbl, h7, h8, hno⟩ := hinv
  obtain ⟨x, hx⟩ : ∃ x, x = ownV V (dz n m t) n := ⟨_, rfl⟩
  obtain ⟨y, hy⟩ : ∃ y, y = ownV V d n := ⟨_, rfl⟩
  have hbet : better V d (dz n m t) = (!lessAny x y && !decide (x = y)) := by
    unfold better
    rw [hl, ← hx, ← hy]
    exact bet_eq (by rw [hx, hy, ownV_length, ownV_length])
  have hvw := (hbl.cell (by rw [← hG]; exact lt_of_cell hv)).trans hv
  rw [← hy] at hW
  have hb0 : Below w0.heap.size w0 w := by rw [hG]; exact hbl
  have hDl := hD.lt
  have H := Lib.hid (And.intro hl (And.intro hr (And.intro (hV.below hb0) (And.intro (hW.below hb0) (And.intro hbl (And.intro h7 (And.intro h8 (And.intro hno (And.intro hD hbet)))))))))
  have HX := Lib.hid (And.intro hx (And.intro (show x.length = n by rw [hx, ownV_length]) (show y.length = n by rw [hy, ownV_length])))
  clear hl hr hv hV hW hbl h7 h8 hno hD hx hy hbet hb0
  go_enter Try.func52, Try.ntmps52
  go_wp2_with fail
  refine (own_any A n cap (some ⟨G + 2, 0, none⟩) m m V (dz n m t) _ H.out.1 (by omega) (dz_length _ _ _) (by omega) H.out.2.1 H.out.2.2.1 (blk_ints H.out.2.2.2.2.2.2.2.2.1)).mono ?_
  rintro e w1 ⟨A1, c1, rfl, hown1, hb1⟩
  have hI1 : Ints w1 A1 x := by rw [HX.out.1]; exact At.of_own hown1
  have hw1 := hb1.size
  have h71 := H.out.2.2.2.2.2.1.below hb1 (by omega)
  have h81 := H.out.2.2.2.2.2.2.1.below hb1 (by omega)
  have H1 := Lib.hid (And.intro hI1 (And.intro (H.out.2.2.2.1.below hb1) (And.intro (H.out.2.2.2.2.1.trans (hb1.mono (by omega))) (And.intro h71 (And.intro h81 (H.out.2.2.2.2.2.2.2.2.1.below hb1 (by omega)))))))
  obtain ⟨p7, q7⟩ := h71.at1
  obtain ⟨p8, q8⟩ := h81.at1
  clear hown1 hI1 hb1 h71 h81
  go_wp2_with fail
  go_loopw [7, 14] (fun bv iv wr => ∃ k nd : Nat, k ≤ n ∧ iv = .int .i64 k ∧ bv = .bool (lessAny (x.take k) (y.take k)) ∧ wr = w1.drewN nd) (fun _ iv _ => n - (intOf iv).toNat)
  case atStart => exact ⟨0, 0, Nat.zero_le _, rfl, rfl, rfl⟩
  case round =>
    obtain ⟨k, nd, hk, rfl, rfl, rfl⟩ := hrel
    have p7' : (w1.drewN nd).cell? ⟨G, 0, none⟩ = some (.slice Aw n cw) := p7
    by_cases hlt : k < n
    · obtain ⟨a, ha⟩ : ∃ a, x[k]? = some a := ⟨_, List.getElem?_eq_getElem (by have := HX.out.2.1; omega)⟩
      obtain ⟨b, hb⟩ : ∃ b, y[k]? = some b := ⟨_, List.getElem?_eq_getElem (by have := HX.out.2.2; omega)⟩
      obtain ⟨ax, rfl, hcx⟩ := H1.out.1 k (.int .i64 a) (by rw [List.getElem?_map, ha]; rfl)
      obtain ⟨ay, rfl, hcy⟩ := H1.out.2.1 k (.int .i64 b) (by rw [List.getElem?_map, hb]; rfl)
      have HT := Lib.hid (lessAny_take ha hb)
      have l1 : (k : Int) < (n : Int) := by omega
      clear ha hb
      generalize lessAny (x.take k) (y.take k) = le at *
      cases le
      · go_wp2_with fail
        go_quiet (fail)
        go_wp2_with fail
        go_roundw
        case rel => exact ⟨k + 1, _, by omega, by go_num, by rw [HT.out]; rfl, rfl⟩
        case measure => simp [intOf]; omega
      · go_wp2_with fail
        go_quiet (fail)
        go_wp2_with fail
        go_roundw
        case rel => exact ⟨k + 1, _, by omega, by go_num, by rw [HT.out]; rfl, rfl⟩
        case measure => simp [intOf]; omega
    · obtain rfl : k = n := by omega
      have hT : x.take k = x := List.take_of_length_le (by have := HX.out.2.1; omega)
      have hT2 : y.take k = y := List.take_of_length_le (by have := HX.out.2.2; omega)
      rw [hT, hT2]
      have HBE := Lib.hid H.out.2.2.2.2.2.2.2.2.2
      clear hT hT2
      have stay : ∀ nd', better V d (dz k m t) = false → binv G w0 k m V d (.slice Aw k cw) (t + 1) (w1.drewN nd') ∧ Blk (w1.drewN nd') (G + 2) 3 (arr (dz k m t)) := fun nd' hb =>
        ⟨⟨below_drewN H1.out.2.2.1 _, H1.out.2.2.2.1, H1.out.2.2.2.2.1, fun s hs => by
          rcases Nat.lt_succ_iff_lt_or_eq.1 hs with h | h
          · exact H.out.2.2.2.2.2.2.2.1 s h
          · rw [h]; exact hb⟩, H1.out.2.2.2.2.2⟩
      have STAY := Lib.hid stay
      clear stay
      have p8' : ∀ nd, (w1.drewN nd).cell? ⟨G + 1, 0, none⟩ = some (.slice none 0 0) := fun _ => p8
      generalize lessAny x y = le at *
      cases le
      · go_wp2_with fail
        refine (equal_any A1 Aw k k c1 cw x y (w1.drewN nd) HX.out.2.1 HX.out.2.2 (by omega) H1.out.1 H1.out.2.1).mono ?_
        rintro e w2 ⟨rfl, ne, rfl⟩
        have p8'' : ((w1.drewN nd).drewN ne).cell? ⟨G + 1, 0, none⟩ = some (.slice none 0 0) := p8
        have q8'' : ((w1.drewN nd).drewN ne).frozen? ⟨G + 1, 0, none⟩ = false := q8
        have HBE2 : Hid (better V d (dz k m t) = !eqB x y) := Lib.hid (by rw [HBE.out]; rfl)
        generalize eqB x y = ee at *
        cases ee
        · go_wp2_with fail
          refine (cloneD_any (some ⟨G + 2, 0, none⟩) m m (dz k m t) (w1.drewN (nd + ne)) (by rw [dz_length]) (by omega) (blk_ints (Blk.drewN H1.out.2.2.2.2.2 _))).mono ?_
          rintro e w3 ⟨A2, c2, rfl, hown2, hb2⟩
          have hI2 : Ints w3 A2 (dz k m t) := At.of_own hown2
          obtain ⟨g, rfl, hg, _⟩ := own_some hown2 (by omega)
          obtain ⟨_, _, he2, hc21, hc22, _⟩ := own_form hown2
          injection he2 with e4 _ e5
          subst e4
          subst e5
          have hg' : G + 2 < g := by have : w1.heap.size ≤ g := hg; omega
          have hb2' : Below w1.heap.size w1 w3 := (below_drewN (Below.refl w1.heap.size w1) (nd + ne)).trans hb2
          have g8 := H1.out.2.2.2.2.1.below hb2' (by omega)
          obtain ⟨r8, s8⟩ := g8.at1
          have H3 := Lib.hid (And.intro hI2 (And.intro hb2' g8))
          clear hown2 hI2 hb2 hb2' g8
          go_wp2_with fail
          go_ret
          refine .inr ⟨rfl, t, ⟨g, 0, none⟩, c2, ht, H.out.2.2.2.2.2.2.2.1, by rw [HBE2.out]; rfl, H3.out.2.2.set_ 0 _, hc21, hc22, ?_, ?_⟩
          · exact ints_far H3.out.1 (fun ad ha => by injection ha with ha; subst ha; show g ≠ G + 1; omega) _
          · exact (H1.out.2.2.1.trans (H3.out.2.1.mono (by omega))).setCell (by show G ≤ G + 1; omega) _
        · go_wp2_with fail
          go_ret
          refine .inl ⟨rfl, ?_⟩
          exact STAY.out (nd + ne) (by rw [HBE2.out]; rfl)
      · go_wp2_with fail
        go_ret
        exact .inl ⟨rfl, STAY.out _ (by rw [HBE.out]; rfl)⟩

theorem ent_better1 : Ent 52 := ent_of Try.func52 (by kernel_rfl) (by kernel_rfl)

theorem find_first {n m t : Nat} (hn : 0 < n) {p : List Int → Bool} (ht : t < n ^ m) (hno : ∀ s, s < t → p (dz n m s) = false) (hp : p (dz n m t) = true) : (divs n m).find? p = some (dz n m t) := by
  rw [divs_eq hn]
  refine find_take (k := t) (by simp [ht]) ?_ hp
  rw [List.find?_eq_none]
  intro x hx
  rw [← List.map_take, List.take_range] at hx
  obtain ⟨s, hs, rfl⟩ := List.mem_map.1 hx
  rw [hno s (by have := List.mem_range.1 hs; omega)]; simp
theorem find_not {n m : Nat} (hn : 0 < n) {p : List Int → Bool} (hno : ∀ s, s < n ^ m → p (dz n m s) = false) : (divs n m).find? p = none := by
  rw [divs_eq hn, List.find?_eq_none]
  intro x hx
  obtain ⟨s, hs, rfl⟩ := List.mem_map.1 hx
  rw [hno s (List.mem_range.1 hs)]; simp

/-- What Better of package split leaves. -/
def SBetPost (V : List (List Int)) (d : List Int) (w : World) (e : Ending) (w' : World) : Prop :=
  ((valV V && divV V d) = false ∧ e = .returned (.tuple #[.slice none 0 0, .int .i64 2]) ∧ Below w.heap.size w w') ∨
  ((valV V && divV V d) = true ∧ BetPost ((divs V.length (rowV V 0).length).find? (better V d)) w e w')

set_option maxRecDepth 100000 in
set_option maxHeartbeats 1600000 in
theorem sbetter_any (A D : Option Addr) (n cap nd capd : Nat) (V : List (List Int)) (d : List Int) (w : World) (hl : V.length = n) (hn : n ≤ 9223372036854775807) (hV : Mat w A V) (hld : d.length = nd) (hnd : nd ≤ 9223372036854775807) (hD : Ints w D d) :
    Calls Try.prog 18 #[.slice A n cap, .slice D nd capd] w (SBetPost V d w) := by
  have qT : ∀ (w : World) (a : Option Addr) (n c n' c' : Nat), (binOp .eql 64 (.slice a n c) (.slice none n' c')).run Try.prog w = .ok (.bool a.isNone) w := fun w a n c n' c' => Lib.run_eql_slice_nil w _ _ a n c n' c' Try.underlying64
  have hp : ∀ o, Blk (w.alloc (.cells #[o] 61)) w.heap.size 61 #[o] := fun o => Blk.new w 61 #[o] rfl
  have hz1 : ∀ o, (w.alloc o).heap.size = w.heap.size + 1 := fun o => by simp
  have hbw : ∀ o, Below w.heap.size w (w.alloc o) := fun o => (Below.refl _ _).alloc (Nat.le_refl _) _
  have H := Lib.hid (And.intro hl (And.intro hV (And.intro hld (And.intro hD (And.intro hp hbw)))))
  clear hl hV hld hD hp hz1 hbw
  go_enter Try.func18, Try.ntmps18
  go_wp2_with fail
  refine (svalid_any A n cap V _ H.out.1 hn (H.out.2.1.below (H.out.2.2.2.2.2 _))).mono ?_
  rintro e w1 ⟨rfl, hb1⟩
  have hBlk : Blk w1 w.heap.size 61 #[.slice A n cap] := (H.out.2.2.2.2.1 _).below hb1 (by go_size)
  have hbl1 : Below w.heap.size w w1 := (H.out.2.2.2.2.2 _).trans (hb1.mono (by go_size))
  have hw1 := hb1.size
  have c1 := hBlk.at1.1
  have H1 := Lib.hid (And.intro hBlk hbl1)
  clear hb1 hBlk hbl1
  cases hv : valV V
  · have HV := Lib.hid hv
    clear hv
    go_wp2_with fail
    go_ret2
    exact .inl ⟨by rw [HV.out]; rfl, rfl, H1.out.2⟩
  · have hv1 := valV_iff.1 hv
    have hn4 : 1 ≤ n ∧ n ≤ 4 := by rw [← H.out.1]; exact hv1.1
    obtain ⟨m, hm⟩ : ∃ m, m = (rowV V 0).length := ⟨_, rfl⟩
    have hm7 : 1 ≤ m ∧ m ≤ 7 := by rw [hm]; exact hv1.2.1
    have HV := Lib.hid (And.intro hv (And.intro hm (valV_rows hv hm)))
    clear hv hv1 hm
    go_wp2_with fail
    refine (sdivision_any A D n cap nd capd m V d w1 H.out.1 (by omega) HV.out.2.1 (by omega) (H.out.2.1.below H1.out.2) H.out.2.2.1 hnd (H.out.2.2.2.1.below H1.out.2)).mono ?_
    rintro e w2 ⟨rfl, hb2⟩
    have hw2 := hb2.size
    have hB2 := H1.out.1.below hb2 H1.out.1.lt
    have c2 := hB2.at1.1
    have H2 := Lib.hid (And.intro hB2 (H1.out.2.trans (hb2.mono (by have := H1.out.2.size; omega))))
    clear hb2 hB2
    cases hd : divV V d
    · have HD := Lib.hid hd
      clear hd
      go_wp2_with fail
      go_ret2
      exact .inl ⟨by rw [HD.out, Bool.and_false], rfl, H2.out.2⟩
    · have hdm : nd = m := by
        unfold divV at hd
        simp only [Bool.and_eq_true, decide_eq_true_eq] at hd
        rw [← H.out.2.2.1, hd.1, ← HV.out.2.1]
      subst hdm
      have HD := Lib.hid hd
      clear hd
      go_wp2_with fail
      refine (own_any A n cap D nd capd V d w2 H.out.1 (by omega) H.out.2.2.1 (by omega) (by rw [← H.out.1]; exact HV.out.2.2) (H.out.2.1.below H2.out.2) (H.out.2.2.2.1.below H2.out.2)).mono ?_
      rintro e w3 ⟨Aw, cw, rfl, hown3, hb3⟩
      have hI3 : Ints w3 Aw (ownV V d n) := At.of_own hown3
      have hw3 := hb3.size
      have hB3 := H2.out.1.below hb3 H2.out.1.lt
      have c3 := hB3.at1.1
      have c5 : ∀ o1 o2, ((w3.alloc o1).alloc o2).cell? ⟨w.heap.size, 0, none⟩ = some (.slice A n cap) := fun o1 o2 => ((hB3.alloc o1).alloc o2).at1.1
      have h03 : Below w.heap.size w w3 := H2.out.2.trans (hb3.mono (by have := H2.out.2.size; omega))
      have b7 : ∀ o1 o2, Blk ((w3.alloc (.cells #[o1] 23)).alloc (.cells #[o2] 64)) w3.heap.size 23 #[o1] := fun o1 o2 => (Blk.new _ _ _ rfl).alloc _
      have b8 : ∀ o1 o2, Blk ((w3.alloc (.cells #[o1] 23)).alloc (.cells #[o2] 64)) (w3.heap.size + 1) 64 #[o2] := fun o1 o2 => Blk.new _ _ _ (by simp)
      have b5 : ∀ o1 o2, Below w3.heap.size w3 ((w3.alloc (.cells #[o1] 23)).alloc (.cells #[o2] 64)) := fun o1 o2 => ((Below.refl _ _).alloc (Nat.le_refl _) _).alloc (by go_size) _
      have hz : ∀ o1 o2 : Obj, ((w3.alloc o1).alloc o2).heap.size = w3.heap.size + 2 := fun o1 o2 => by simp
      have H3 := Lib.hid (And.intro hI3 (And.intro hB3 (And.intro h03 (And.intro b7 (And.intro b8 (And.intro b5 hz))))))
      clear hown3 hI3 hb3 hB3 h03 b7 b8 b5 hz
      go_wp2_with fail
      refine (each_any 52 #[.pointer (some ⟨w.heap.size, 0, none⟩), .pointer (some ⟨w3.heap.size, 0, none⟩), .pointer (some ⟨w3.heap.size + 1, 0, none⟩)] A n cap nd V _ (binv w3.heap.size w3 n nd V d (.slice Aw n cw)) (bdone w3.heap.size w3 n nd V d) ent_better1 H.out.1 hn4 HV.out.2.1 hm7 ((H.out.2.1.below H3.out.2.2.1).below (H3.out.2.2.2.2.2.1 _ _)) ?hst ?hset ?hcall).mono ?_
      case hst =>
        exact ⟨(H3.out.2.2.2.2.2.1 _ _).alloc (by go_size) _, (H3.out.2.2.2.1 _ _).alloc _, (H3.out.2.2.2.2.1 _ _).alloc _, fun s hs => by omega⟩
      case hset =>
        intro t w' i v h
        rw [H3.out.2.2.2.2.2.2]
        exact binv_set h i v
      case hcall =>
        intro t w' ht hinv hB
        rw [H3.out.2.2.2.2.2.2] at hB ⊢
        exact sbetter1_any w3.heap.size w.heap.size n nd cap cw A Aw V d w3 t w' ht H.out.1 hn4 hm7 (by rw [← H.out.1]; exact HV.out.2.2) rfl c3 (H.out.2.1.below H3.out.2.2.1) H3.out.1 hinv hB
      rintro e w5 ⟨rfl, hi | hi⟩
      · obtain ⟨g1, g2, g3, g4⟩ := hi
        obtain ⟨p8, q8⟩ := g3.at1
        have HF := Lib.hid (And.intro (find_not (by omega) g4) (H3.out.2.2.1.trans (g1.mono H3.out.2.2.1.size)))
        clear g1 g2 g3 g4
        go_wp2_with fail
        go_ret2
        refine .inr ⟨by rw [HV.out.1, HD.out]; rfl, .inl ⟨?_, rfl, HF.out.2⟩⟩
        rw [H.out.1, ← HV.out.2.1]; exact HF.out.1
      · obtain ⟨t, A8, c8, g1, g2, g3, g4, g5, g6, g7, g8⟩ := hi
        obtain ⟨p8, q8⟩ := g4.at1
        have HF := Lib.hid (And.intro (find_first (by omega) g1 g2 g3) (And.intro g7 (H3.out.2.2.1.trans (g8.mono H3.out.2.2.1.size))))
        clear g1 g2 g3 g4 g7 g8
        go_wp2_with fail
        go_ret2
        refine .inr ⟨by rw [HV.out.1, HD.out]; rfl, .inr ⟨dz n nd t, some A8, c8, ?_, by rw [dz_length]; rfl, by rw [dz_length]; exact hm7.2, HF.out.2.1, HF.out.2.2⟩⟩
        rw [H.out.1, ← HV.out.2.1]; exact HF.out.1
end Go.Proofs.Ytkljambjdiblkaa
