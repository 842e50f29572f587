/- Contract: axis of package vote. -/
import Derived.Test.YtpoibiakfjkebaaVKem
import Derived.Test.YtpoibiakfjkebaaTopMiddleM4
namespace Go.Proofs.Ytpoibiakfjkebaa
open Go.RowKit Go.Shelf

attribute [local go_sem] Oper.semAt_some

set_option maxHeartbeats 800000 in
theorem vaxis1_any (v Bo Bl gc k c n cap : Nat) (A : Option Addr) (po : List Nat) (V : List (List Int)) (B : List (List Nat)) (w : World) (hB : Blts V k B) (hl : V.length = n) (hv : v < n) (hodr : Mid.Odr k po) (hc1 : k ≤ c) (hc2 : c ≤ 9223372036854775807)
    (ho : w.cell? ⟨Bo, 0, none⟩ = some (.slice (some ⟨gc, 0, none⟩) k c)) (hL : w.cell? ⟨Bl, 0, none⟩ = some (.slice A n cap)) (hI : Ints w (some ⟨gc, 0, none⟩) (intL po)) (hV : Mat w A V) :
    Calls Try.prog 29 #[.int .i64 (v : Int), .pointer (some ⟨Bo, 0, none⟩), .pointer (some ⟨Bl, 0, none⟩)] w fun e w' => e = .returned (.bool (Mid.bendB po (B.getD v []))) ∧ Below w.heap.size w w' := by
  have hvB : v < B.length := by have := hB.len; omega
  have hk5 := hB.hn
  obtain ⟨ad, A', c', rfl, hcell, hrc, hcm, hIr⟩ := hV v _ (hB.get hvB)
  have hob := hB.at_ hvB
  obtain ⟨b, hb⟩ : ∃ b, b = B.getD v [] := ⟨_, rfl⟩
  rw [← hb] at hcell hrc hIr hob ⊢
  rw [show (intL b).length = k by rw [intL_length, hob.len]] at hcell hrc
  have HC : Hid (∀ s : Desc w, Calls Try.prog 30 #[.slice (some ⟨gc, 0, none⟩) k c, .slice A' k c'] s.val fun e w'' => e = .returned (.bool (Mid.bendB po b)) ∧ ∃ s' : Desc w, w'' = s'.val) := Lib.hid fun s => Calls.desc_of (vbends_any (some ⟨gc, 0, none⟩) A' k c c' po b s.val hk5 hodr hob hc1 hc2 (hI.below s.below) (hIr.below s.below))
  have d1 : ∀ s : Desc w, s.val.cell? ⟨Bo, 0, none⟩ = some (.slice (some ⟨gc, 0, none⟩) k c) := fun s => s.cell ho
  have d2 : ∀ s : Desc w, s.val.cell? ⟨Bl, 0, none⟩ = some (.slice (some ad) n cap) := fun s => s.cell hL
  have d3 : ∀ s : Desc w, s.val.cell? (ad.add v) = some (.slice A' k c') := fun s => s.cell hcell
  have l1 : (v : Int) < (n : Int) := by omega
  clear hI hV hIr hodr hob hb hB hl hcell ho hL
  generalize Mid.bendB po b = r at HC ⊢
  go_enter Try.func29, Try.ntmps29
  go_wp2_with fail
  refine wp_region_desc (by kernel_rfl) (by kernel_rfl) ?_
  repeat (go_big_quiet_step (first | (go_at_call 30; exact HC.out _)))
  refine wpQuiet_nil ?_
  rintro _ ⟨s, rfl⟩
  have hbs := s.below
  generalize s.val = w7 at hbs ⊢
  go_wp2_with fail
  go_ret
  exact ⟨rfl, hbs⟩
theorem entF_vaxis1 : EntF 29 := entF_of Try.func29 (by kernel_rfl) (by kernel_rfl)

/-- Between two rounds. -/
def AI (b : Nat) (L : World) (_ : List (List Nat)) (o : Nat) (W : World) : Prop := Kept L.heap.size [b + 2] L W ∧ L.heap.size ≤ o ∧ Blk W (b + 2) 23 #[.slice none 0 0]
theorem AI.kept {b : Nat} {L : World} (hb : b + 2 < L.heap.size) : ∀ os o A B' o', AI b L os o A → Kept A.heap.size [o, L.heap.size, L.heap.size + 1, L.heap.size + 2, L.heap.size + 3, L.heap.size + 4] A B' → (o' = o ∨ A.heap.size ≤ o') → AI b L os o' B' := by
  rintro os o A B' o' ⟨h1, h2, h3⟩ hk ho'
  have hs := h1.size
  refine ⟨h1.trans (hk.mono hs (fun x hx => .inr ?_)), by omega, h3.kept hk (by omega) ?_⟩
  · simp only [List.mem_cons, List.not_mem_nil, or_false] at hx; omega
  · intro hx; simp only [List.mem_cons, List.not_mem_nil, or_false] at hx; omega
/-- Where a round has left. -/
def AX (k b : Nat) (B : List (List Nat)) (L : World) (c : Code) (_ : List (List Nat)) (W : World) : Prop :=
  c = .ret ∧ Kept L.heap.size [b + 2] L W ∧ ∃ gc c1 po, Blk W (b + 2) 23 #[.slice (some ⟨gc, 0, none⟩) k c1] ∧ Ints W (some ⟨gc, 0, none⟩) (intL po) ∧ Mid.Odr k po ∧ (∀ b ∈ B, Mid.bendB po b = false) ∧ L.heap.size + 5 ≤ gc ∧ gc < W.heap.size ∧ k ≤ c1 ∧ c1 ≤ 9223372036854775807
theorem AX.kept {k b : Nat} {B : List (List Nat)} {L : World} (hb : b + 2 < L.heap.size) : ∀ c os A B', AX k b B L c os A → Kept A.heap.size [L.heap.size, L.heap.size + 1] A B' → AX k b B L c os B' := by
  rintro c os A B' ⟨h0, h1, gc, c1, po, h2, h3, h4, h5, h6, h7, h8, h9⟩ hk
  have hs := h1.size
  refine ⟨h0, h1.trans (hk.mono hs (fun x hx => .inr ?_)), gc, c1, po, h2.kept hk (by omega) ?_, ?_, h4, h5, h6, Nat.lt_of_lt_of_le h7 hk.size, h8, h9⟩
  · simp only [List.mem_cons, List.not_mem_nil, or_false] at hx; omega
  · intro hx; simp only [List.mem_cons, List.not_mem_nil, or_false] at hx; omega
  · intro i v hv
    obtain ⟨ad, he, hc⟩ := h3 i v hv
    injection he with he
    refine ⟨ad, by rw [he], ?_⟩
    rw [hk.cell (by rw [add_block, ← he]; exact h7) (by rw [add_block, ← he]; simp only [List.mem_cons, List.not_mem_nil, or_false]; omega)]; exact hc

set_option maxRecDepth 100000 in
set_option maxHeartbeats 4000000 in
theorem vaxis_any (A : Option Addr) (n cap k gN cN gV cV : Nat) (V : List (List Int)) (B : List (List Nat)) (w : World) (hB : Blts V k B) (hl : V.length = n) (hV : Mat w A V) (hN : Ints w (some ⟨gN, 0, none⟩) (intL (List.range k))) (hVt : Ints w (some ⟨gV, 0, none⟩) (intL (List.range n))) :
    Calls Try.prog 14 #[.slice A n cap, .slice (some ⟨gN, 0, none⟩) k cN, .slice (some ⟨gV, 0, none⟩) n cV] w fun e w' => Below w.heap.size w w' ∧ (e = .returned (.slice none 0 0) ∨
      ∃ gc c1 po, e = .returned (.slice (some ⟨gc, 0, none⟩) k c1) ∧ Ints w' (some ⟨gc, 0, none⟩) (intL po) ∧ Mid.Odr k po ∧ (∀ b ∈ B, Mid.bendB po b = false) ∧ k ≤ c1 ∧ c1 ≤ 9223372036854775807) := by
  obtain ⟨w1, hw1⟩ : ∃ w1, w1 = ((w.alloc (.cells #[.slice A n cap] 37)).alloc (.cells #[.slice (some ⟨gV, 0, none⟩) n cV] 23)).alloc (.cells #[.slice none 0 0] 23) := ⟨_, rfl⟩
  have hn9 : 1 ≤ n ∧ n ≤ 9 := by have := hB.hB; have := hB.len; omega
  have hk5 := hB.hn
  have hb1 : Below w.heap.size w w1 := by rw [hw1]; exact (((Below.refl _ _).alloc (Nat.le_refl _) _).alloc (by simp) _).alloc (by simp; omega) _
  have hz1 : w1.heap.size = w.heap.size + 3 := by rw [hw1]; simp
  have b0 : Blk w1 w.heap.size 37 #[.slice A n cap] := by rw [hw1]; exact ((Blk.new _ _ _ rfl).alloc _).alloc _
  have b1 : Blk w1 (w.heap.size + 1) 23 #[.slice (some ⟨gV, 0, none⟩) n cV] := by rw [hw1]; exact (Blk.new _ _ _ (by simp)).alloc _
  have b2 : Blk w1 (w.heap.size + 2) 23 #[.slice none 0 0] := by rw [hw1]; exact Blk.new _ _ _ (by simp)
  have HO := Lib.hid (callsIn_wide.2 (vorders_any (some ⟨gN, 0, none⟩) k cN w1) : CallsIn Fence.wide 5 _ _ _ _ _)
  have hgN : gN < w.heap.size := by
    obtain ⟨ad, he, hc⟩ := hN 0 (.int .i64 ((0 : Nat) : Int)) (by rw [List.getElem?_map, intL_some (x := 0) (by rw [List.getElem?_range (by omega)])]; rfl)
    injection he with he
    have := lt_of_cell hc
    rw [add_block, ← he] at this; exact this
  have H := Lib.hid (And.intro hB (And.intro hl (And.intro hV (And.intro hb1 (And.intro hz1 (And.intro b0 (And.intro b1 (And.intro b2 (And.intro hN (And.intro hVt hgN))))))))))
  clear hB hl hV hb1 hz1 b0 b1 b2 hN hVt hgN
  refine (callsIn_wide (n := 6)).1 ?_
  refine callsIn_of_wp_marks Try.func14 rfl trivial ?_ rfl
  simp only [Try.ntmps14, List.size_toArray, List.length_cons, List.length_nil, Nat.reduceAdd, Nat.reduceSub, Array.replicate_succ, Array.replicate_zero, List.push_toArray, List.append_toArray, List.nil_append, List.cons_append]
  gi_wp2
  refine ⟨trivial, ?_⟩
  rw [← hw1]
  clear hw1
  refine HO.out.mono ?_
  rintro e w3 ⟨rfl, hw3⟩
  have hz1 := H.out.2.2.2.2.1
  have hz3 : w3.heap.size = w1.heap.size + 1 := by rw [hw3]; simp
  have hb3 : Below w1.heap.size w1 w3 := by rw [hw3]; exact (Below.refl _ _).alloc (Nat.le_refl _) _
  have hbn : Blk w3 w1.heap.size 23 #[.slice (some ⟨gN, 0, none⟩) k cN] := by rw [hw3]; exact Blk.new _ _ _ rfl
  have hb03 : Below w.heap.size w w3 := H.out.2.2.2.1.trans (hb3.mono (by omega))
  have hI0 : AI w.heap.size w3 [] (w3.heap.size + 2) w3 := ⟨Kept.refl _ _ _, by omega, H.out.2.2.2.2.2.2.2.1.below hb3 (by omega)⟩
  have H3 := Lib.hid (And.intro hz1 (And.intro hz3 (And.intro hb03 (And.intro hbn (And.intro (H.out.2.2.2.2.2.2.2.2.1.below hb03) (And.intro hI0 (And.intro (H.out.2.2.2.2.2.1.below hb3 (by omega)) (And.intro (H.out.2.2.2.2.2.2.1.below hb3 (by omega)) (And.intro (H.out.2.2.1.below hb03) H.out.2.2.2.2.2.2.2.2.2.2)))))))))
  clear hw3 hz1 hz3 hb3 hbn hb03 hI0 HO
  gi_wp2
  refine wpIn_rangeOrders rfl w1.heap.size ⟨gN, 0, none⟩ cN k rfl hk5 H3.out.2.2.2.1.at1.1 H3.out.2.2.2.2.1 [w.heap.size + 2] ?hC ?hBC ?hAC (AI w.heap.size w3) (AX k w.heap.size B w3)
    (AI.kept (by have := H3.out; omega)) (AX.kept (by have := H3.out; omega)) H3.out.2.2.2.2.2.1
    (fun v W a₁ w₁ => w₁ = W.alloc (.cells #[v] 23) ∧ a₁ = { tmps := #[.slice A n cap, .slice (some ⟨gN, 0, none⟩) k cN, .slice (some ⟨gV, 0, none⟩) n cV, .pointer (some ⟨w.heap.size, 0, none⟩), undef, .pointer (some ⟨w.heap.size + 1, 0, none⟩), .pointer (some ⟨w.heap.size + 1 + 1, 0, none⟩), .pointer (some ⟨W.heap.size, 0, none⟩), .slice (some ⟨gN, 0, none⟩) k cN, .func (.func 49) #[] #[.pointer (some ⟨w1.heap.size, 0, none⟩)], v, undef, undef, undef, undef, undef], defers := [] })
    (by rintro v W a₁ w₁ ⟨rfl, _⟩; exact (Below.refl _ _).alloc (Nat.le_refl _) _) ?hassign ?hbody ?hdone ?hstop
  case hC => intro x hx; have := H3.out; simp only [List.mem_cons, List.not_mem_nil, or_false] at hx; omega
  case hBC => intro hx; have := H3.out; simp only [List.mem_cons, List.not_mem_nil, or_false] at hx; omega
  case hAC => intro hx; have : gN < w.heap.size := H3.out.2.2.2.2.2.2.2.2.2; simp only [List.mem_cons, List.not_mem_nil, or_false] at hx; omega
  case hassign =>
    intro l m gc c1 W K hK
    gi_wp2
  case hbody =>
    rintro l m os o po W gc c1 a₁ w₁ w₂ hI _ hodr hIp hgo hgc hgW hc1 hc2 ⟨rfl, rfl⟩ hheap hsz
    obtain ⟨hkp, hLo, hres⟩ := hI
    have hz1 := H3.out.1
    have hz3 := H3.out.2.1
    have hnm : ∀ x, x ≠ w.heap.size + 2 → x ∉ [w.heap.size + 2] := by intro x hx; simp; exact hx
    have hb0 : Blk w₂ w.heap.size 37 #[.slice A n cap] := H3.out.2.2.2.2.2.2.1.kept hkp (by omega) (hnm _ (by omega))
    have hbv : Blk w₂ (w.heap.size + 1) 23 #[.slice (some ⟨gV, 0, none⟩) n cV] := H3.out.2.2.2.2.2.2.2.1.kept hkp (by omega) (hnm _ (by omega))
    have hbx : Blk w₂ W.heap.size 23 #[.slice (some ⟨gc, 0, none⟩) k c1] := (hheap _ (by omega)).trans (Blk.new _ _ _ rfl)
    have hb02 : Below w.heap.size w w₂ := H3.out.2.2.1.trans ((hkp.mono (S' := []) (show w.heap.size ≤ w3.heap.size by omega) (fun x hx => .inr (by simp only [List.mem_cons, List.not_mem_nil, or_false] at hx; omega))).below)
    have hsz2 : w₂.heap.size = W.heap.size + 1 := by rw [hsz]; simp
    have hVt := H.out.2.2.2.2.2.2.2.2.2.1.below hb02
    have hV2 := H.out.2.2.1.below hb02
    have hlV := H.out.2.1
    have hBl := H.out.1
    have hC0 := containsF_gen 29 #[.pointer (some ⟨W.heap.size, 0, none⟩), .pointer (some ⟨w.heap.size, 0, none⟩)] entF_vaxis1 (some ⟨gV, 0, none⟩) n cV (intL (List.range n)) w₂ (fun wx => Below w₂.heap.size w₂ wx) (fun x => Mid.bendB po (B.getD x.toNat [])) (by rw [intL_length, List.length_range]) (by omega) (Below.refl _ _) (fun w' hb' => hVt.below hb') (by
      intro x hx w' hb'
      obtain ⟨v, rfl, hv⟩ := mem_intL hx
      rw [List.mem_range] at hv
      refine (vaxis1_any v W.heap.size w.heap.size gc k c1 n cap A po V B w' hBl hlV hv hodr hc1 hc2 (hbx.below hb' hbx.lt).at1.1 (hb0.below hb' hb0.lt).at1.1 (hIp.below hb') (hV2.below hb')).mono ?_
      rintro e w'' ⟨rfl, hb''⟩
      exact ⟨by rw [Int.toNat_natCast], hb'.trans (hb''.mono hb'.size)⟩)
    rw [intL_any] at hC0
    have hBn : B.length = n := by have := hBl.len; omega
    obtain ⟨r, hr⟩ : ∃ r, r = (List.range n).any fun x => Mid.bendB po (B.getD (x : Int).toNat []) := ⟨_, rfl⟩
    rw [← hr] at hC0
    have hno : r = false → ∀ b ∈ B, Mid.bendB po b = false := by
      intro h b hb
      rw [hr, List.any_eq_false] at h
      obtain ⟨i, hi⟩ := List.getElem?_of_mem hb
      have hil := (List.getElem?_eq_some_iff.1 hi).1
      have := h i (List.mem_range.2 (by omega))
      rw [Int.toNat_natCast, List.getD_eq_getElem?_getD, hi] at this
      simpa using this
    have HC := Lib.hid (CallsIn.inRound l (callsIn_wide.2 hC0) : CallsIn (Fence.wide.inRound l) (m - 1) _ _ _ _ _)
    obtain ⟨v1, v2⟩ := hbv.at1
    have H2 := Lib.hid (And.intro hkp (And.intro hLo (And.intro hres (And.intro hodr (And.intro hIp (And.intro hno (And.intro hbx (And.intro hsz2 (And.intro hz1 hz3)))))))))
    clear hkp hLo hres hodr hIp hheap hb0 hbv hbx hb02 hsz2 hVt hV2 hlV hBl hC0 hBn hr hno hnm hz1 hz3
    gi_wp2
    refine ⟨trivial, ?_⟩
    refine ⟨fun h => (by cases h), ?_⟩
    refine HC.out.mono ?_
    rintro e w4 ⟨rfl, hb4⟩
    have hsz2 := H2.out.2.2.2.2.2.2.2.1
    have hz1 := H2.out.2.2.2.2.2.2.2.2.1
    have hz3 := H2.out.2.2.2.2.2.2.2.2.2
    have hs3 := H2.out.1.size
    cases r
    · have hR4 := H2.out.2.2.1.below hb4 H2.out.2.2.1.lt
      have hX4 := H2.out.2.2.2.2.2.2.1.below hb4 H2.out.2.2.2.2.2.2.1.lt
      obtain ⟨x1, x2⟩ := hX4.at1
      obtain ⟨r1, r2⟩ := hR4.at1
      have HF := Lib.hid (And.intro hb4 (And.intro hR4 hX4))
      clear hb4 hR4 hX4
      gi_wp2
      have hK : Kept w₂.heap.size [w.heap.size + 2] w₂ (w4.setCell ⟨w.heap.size + 1 + 1, 0, none⟩ (.slice (some ⟨gc, 0, none⟩) k c1)) := (Kept.of_below HF.out.1 _).setCell (.inl (by simp)) _
      refine ⟨hK, rfl, H2.out.1.trans (hK.mono hs3 (fun x hx => .inl hx)), gc, c1, po, HF.out.2.1.set_ 0 _, ?_, H2.out.2.2.2.1, H2.out.2.2.2.2.2.1 (by trivial), hgc, ?_, hc1, hc2⟩
      · intro i v hv
        obtain ⟨ad, he, hc⟩ := H2.out.2.2.2.2.1 i v hv
        injection he with he
        refine ⟨ad, by rw [he], ?_⟩
        rw [hK.cell (by rw [add_block, ← he]; show gc < w₂.heap.size; omega) (by rw [add_block, ← he]; simp; omega)]; exact hc
      · have := hK.size; omega
    · have HF := Lib.hid (And.intro hb4 (H2.out.2.2.1.below hb4 H2.out.2.2.1.lt))
      clear hb4
      gi_wp2
      exact ⟨Kept.of_below HF.out.1 _, H2.out.1.trans ((Kept.of_below HF.out.1 _).mono hs3 (fun x hx => .inl hx)), H2.out.2.1, HF.out.2⟩
  case hdone =>
    rintro o W ⟨hkp, hLo, hres⟩ hD
    have hz1 := H3.out.1
    have hz3 := H3.out.2.1
    obtain ⟨r1, r2⟩ := hres.at1
    have HS := Lib.hid (And.intro hkp (And.intro hres hD))
    clear hkp hLo hres hD
    gi_wp2
    obtain ⟨wf, hwf⟩ : ∃ wf, wf = W.setCell ⟨w.heap.size + 1 + 1, 0, none⟩ (.slice none 0 0) := ⟨_, rfl⟩
    rw [← hwf]
    have hsz := HS.out.1.size
    have hD : wf.heap[w3.heap.size]? = some (.deferred (some [])) := by
      rw [hwf]
      exact (Below.heap_setCell _ _ _ _ (by show w3.heap.size ≠ w.heap.size + 1 + 1; omega)).trans HS.out.2.2
    obtain ⟨wz, hwz⟩ : ∃ wz, wz = wf.putObj w3.heap.size (.deferred none) := ⟨_, rfl⟩
    have hKz : Kept W.heap.size [w.heap.size + 2, w3.heap.size] W wz := by
      rw [hwz, hwf]
      exact ((Kept.refl _ _ _).setCell (.inl (by simp)) _).putObj (.inl (by simp)) _
    have z1 : Blk wz (w.heap.size + 2) 23 #[.slice none 0 0] := by
      rw [hwz, hwf]
      exact (World.putObj_heap_other (by omega)).trans (HS.out.2.1.set_ 0 _)
    have s0 : wz.cell? ⟨w.heap.size + 1 + 1, 0, none⟩ = some (.slice none 0 0) := z1.at1.1
    have hBz : Below w.heap.size w wz := H3.out.2.2.1.trans (((HS.out.1.mono (S' := []) (show w.heap.size ≤ w3.heap.size by omega) (fun x hx => .inr (by simp only [List.mem_cons, List.not_mem_nil, or_false] at hx; omega))).trans
      (hKz.mono (S' := []) (by omega) (fun x hx => .inr (by simp only [List.mem_cons, List.not_mem_nil, or_false] at hx; omega)))).below)
    rw [hwz] at s0 hBz
    refine ⟨by simp, .inl ⟨_, _, rfl, run_takeDeferred hD, ?_⟩⟩
    exact ⟨.slice none 0 0, by simp [results, Try.results14, go_sem, s0], hBz, .inl rfl⟩
  case hstop =>
    rintro c q W _ ⟨rfl, hkp, gc, c1, po, hres, hIp, hodr, hno, hgc, hgW, hc1, hc2⟩ hD
    have hz1 := H3.out.1
    have hz3 := H3.out.2.1
    have HS := Lib.hid (And.intro hkp (And.intro hres (And.intro hD (And.intro hIp (And.intro hodr hno)))))
    clear hkp hres hD hIp hodr hno
    gi_wp2
    have hsz := HS.out.1.size
    obtain ⟨wz, hwz⟩ : ∃ wz, wz = W.putObj w3.heap.size (.deferred none) := ⟨_, rfl⟩
    have hKz : Kept W.heap.size [w3.heap.size] W wz := by
      rw [hwz]
      exact (Kept.refl _ _ _).putObj (.inl (by simp)) _
    have z1 : Blk wz (w.heap.size + 2) 23 #[.slice (some ⟨gc, 0, none⟩) k c1] := by
      rw [hwz]
      exact (World.putObj_heap_other (by omega)).trans HS.out.2.1
    have s0 : wz.cell? ⟨w.heap.size + 1 + 1, 0, none⟩ = some (.slice (some ⟨gc, 0, none⟩) k c1) := z1.at1.1
    have hIz : Ints wz (some ⟨gc, 0, none⟩) (intL po) := by
      intro i v hv
      obtain ⟨ad, he, hc⟩ := HS.out.2.2.2.1 i v hv
      injection he with he
      refine ⟨ad, by rw [he], ?_⟩
      rw [hKz.cell (by rw [add_block, ← he]; exact hgW) (by rw [add_block, ← he]; simp; omega)]; exact hc
    have hBz : Below w.heap.size w wz := H3.out.2.2.1.trans (((HS.out.1.mono (S' := []) (show w.heap.size ≤ w3.heap.size by omega) (fun x hx => .inr (by simp only [List.mem_cons, List.not_mem_nil, or_false] at hx; omega))).trans
      (hKz.mono (S' := []) (by omega) (fun x hx => .inr (by simp only [List.mem_cons, List.not_mem_nil, or_false] at hx; omega)))).below)
    rw [hwz] at s0 hBz hIz
    refine ⟨by simp, .inl ⟨_, _, rfl, run_takeDeferred HS.out.2.2.1, ?_⟩⟩
    exact ⟨.slice (some ⟨gc, 0, none⟩) k c1, by simp [results, Try.results14, go_sem, s0], hBz, .inr ⟨gc, c1, po, rfl, hIz, HS.out.2.2.2.2.1, HS.out.2.2.2.2.2, hc1, hc2⟩⟩
end Go.Proofs.Ytpoibiakfjkebaa
