/- Contract: kemeny of package vote. -/
import Derived.Test.YtpoibiakfjkebaaTopMiddleM3
namespace Go.Proofs.Ytpoibiakfjkebaa
open Go.RowKit Go.Shelf

attribute [local go_sem] Oper.semAt_some

/-- What the two results hold. -/
def KS (k b Lz : Nat) (st : Option (List Nat × Nat)) (o : Nat) (W : World) : Prop :=
  match st with
  | none => Blk W (b + 1) 23 #[.slice none 0 0] ∧ Blk W (b + 2) 3 #[.int .i64 0]
  | some (best, least) => ∃ gc c, Blk W (b + 1) 23 #[.slice (some ⟨gc, 0, none⟩) k c] ∧ Blk W (b + 2) 3 #[.int .i64 (least : Nat)] ∧ Ints W (some ⟨gc, 0, none⟩) (intL best) ∧ gc ≠ o ∧ Lz + 5 ≤ gc ∧ gc < W.heap.size ∧ k ≤ c ∧ c ≤ 9223372036854775807
theorem KS.kept {k b Lz o o' : Nat} {st : Option (List Nat × Nat)} {A B : World} {S : List Nat} (h : KS k b Lz st o A) (hb : b + 2 < Lz) (hL : Lz ≤ A.heap.size) (ho : Lz ≤ o) (hk : Kept A.heap.size S A B) (hS : ∀ x ∈ S, x = o ∨ (Lz ≤ x ∧ x < Lz + 5)) (ho' : o' = o ∨ A.heap.size ≤ o') : KS k b Lz st o' B := by
  have n1 : b + 1 ∉ S := fun h => by have := hS _ h; omega
  have n2 : b + 2 ∉ S := fun h => by have := hS _ h; omega
  unfold KS at h ⊢
  match st, h with
  | none, h => exact ⟨h.1.kept hk (by omega) n1, h.2.kept hk (by omega) n2⟩
  | some (best, least), h =>
    obtain ⟨gc, c, h1, h2, h3, h4, h5, h6, h7, h8⟩ := h
    have n3 : gc ∉ S := fun h => by have := hS _ h; omega
    refine ⟨gc, c, h1.kept hk (by omega) n1, h2.kept hk (by omega) n2, ?_, by omega, h5, Nat.lt_of_lt_of_le h6 hk.size, h7, h8⟩
    intro i v hv
    obtain ⟨ad, he, hc⟩ := h3 i v hv
    injection he with he
    refine ⟨ad, by rw [he], ?_⟩
    rw [hk.cell (by rw [add_block, ← he]; exact h6) (by rw [add_block, ← he]; exact n3)]; exact hc
/-- Between two rounds. -/
def KI (k b : Nat) (B : List (List Nat)) (L : World) (os : List (List Nat)) (o : Nat) (W : World) : Prop :=
  Kept L.heap.size [b + 1, b + 2] L W ∧ L.heap.size ≤ o ∧ KS k b L.heap.size (Mid.kemTo B os) o W
theorem KI.kept {k b : Nat} {B : List (List Nat)} {L : World} (hb : b + 2 < L.heap.size) : ∀ os o A B' o', KI k b B L os o A → Kept A.heap.size [o, L.heap.size, L.heap.size + 1, L.heap.size + 2, L.heap.size + 3, L.heap.size + 4] A B' → (o' = o ∨ A.heap.size ≤ o') → KI k b B L os o' B' := by
  rintro os o A B' o' ⟨h1, h2, h3⟩ hk ho'
  have hs := h1.size
  refine ⟨h1.trans (hk.mono hs (fun x hx => .inr ?_)), by omega, h3.kept hb hs h2 hk (fun x hx => ?_) ho'⟩
  · simp only [List.mem_cons, List.not_mem_nil, or_false] at hx; omega
  · simp only [List.mem_cons, List.not_mem_nil, or_false] at hx; omega

theorem KI.store {k b o gc c1 d : Nat} {B os : List (List Nat)} {po : List Nat} {L W : World} {v1 v2 : Value} (hb : b + 2 < L.heap.size) (hkp : Kept L.heap.size [b + 1, b + 2] L W) (hLo : L.heap.size ≤ o) (b1 : Blk W (b + 1) 23 #[v1]) (b2 : Blk W (b + 2) 3 #[v2])
    (hkem : Mid.kemTo B (os ++ [po]) = some (po, d)) (hIp : Ints W (some ⟨gc, 0, none⟩) (intL po)) (hgo : gc ≠ o) (hgc : L.heap.size + 5 ≤ gc) (hgW : gc < W.heap.size) (h1 : k ≤ c1) (h2 : c1 ≤ 9223372036854775807) :
    Kept W.heap.size [b + 1, b + 2] W ((W.setCell ⟨b + 1, 0, none⟩ (.slice (some ⟨gc, 0, none⟩) k c1)).setCell ⟨b + 1 + 1, 0, none⟩ (.int .i64 (d : Int))) ∧ KI k b B L (os ++ [po]) o ((W.setCell ⟨b + 1, 0, none⟩ (.slice (some ⟨gc, 0, none⟩) k c1)).setCell ⟨b + 1 + 1, 0, none⟩ (.int .i64 (d : Int))) := by
  have hK : Kept W.heap.size [b + 1, b + 2] W ((W.setCell ⟨b + 1, 0, none⟩ (.slice (some ⟨gc, 0, none⟩) k c1)).setCell ⟨b + 1 + 1, 0, none⟩ (.int .i64 (d : Int))) := ((Kept.refl _ _ _).setCell (.inl (by simp)) _).setCell (.inl (by simp)) _
  have hsL := hkp.size
  refine ⟨hK, hkp.trans (hK.mono hsL (fun x hx => .inl hx)), hLo, ?_⟩
  rw [hkem]
  refine ⟨gc, c1, (b1.set_ 0 _).far (by show b + 1 ≠ b + 1 + 1; omega) _, (b2.far (by show b + 2 ≠ b + 1; omega) _).set_ 0 _, ?_, hgo, hgc, by simpa [World.setCell] using hgW, h1, h2⟩
  intro i v hv
  obtain ⟨ad, he, hc⟩ := hIp i v hv
  injection he with he
  refine ⟨ad, by rw [he], ?_⟩
  rw [hK.cell (by rw [add_block, ← he]; exact hgW) (by rw [add_block, ← he]; simp; omega)]; exact hc

set_option maxRecDepth 100000 in
set_option maxHeartbeats 4000000 in
theorem vkemeny_any (A : Option Addr) (n cap k : Nat) (V : List (List Int)) (B : List (List Nat)) (w : World) (hB : Blts V k B) (hl : V.length = n) (hV : Mat w A V) :
    Calls Try.prog 23 #[.slice A n cap] w fun e w' => ∃ gc c best least, e = .returned (.tuple #[.slice (some ⟨gc, 0, none⟩) k c, .int .i64 ((least : Nat) : Int)]) ∧ Mid.kemTo B (Mid.allO k) = some (best, least) ∧ Ints w' (some ⟨gc, 0, none⟩) (intL best) ∧ k ≤ c ∧ c ≤ 9223372036854775807 ∧ Below w.heap.size w w' := by
  obtain ⟨w1, hw1⟩ : ∃ w1, w1 = ((w.alloc (.cells #[.slice A n cap] 37)).alloc (.cells #[.slice none 0 0] 23)).alloc (.cells #[.int .i64 0] 3) := ⟨_, rfl⟩
  have hn9 : 1 ≤ n ∧ n ≤ 9 := by have := hB.hB; have := hB.len; omega
  have hk5 := hB.hn
  have hb1 : Below w.heap.size w w1 := by rw [hw1]; exact (((Below.refl _ _).alloc (Nat.le_refl _) _).alloc (by simp) _).alloc (by simp; omega) _
  have hz1 : w1.heap.size = w.heap.size + 3 := by rw [hw1]; simp
  have b0 : Blk w1 w.heap.size 37 #[.slice A n cap] := by rw [hw1]; exact ((Blk.new _ _ _ rfl).alloc _).alloc _
  have b1 : Blk w1 (w.heap.size + 1) 23 #[.slice none 0 0] := by rw [hw1]; exact (Blk.new _ _ _ (by simp)).alloc _
  have b2 : Blk w1 (w.heap.size + 2) 3 #[.int .i64 0] := by rw [hw1]; exact Blk.new _ _ _ (by simp)
  have c0 := b0.at1.1
  have HN := Lib.hid (callsIn_wide.2 (vnames_any A n cap k V w1 hl hn9.1 (by omega) hB.row0.symm (by omega) (hV.below hb1)) : CallsIn Fence.wide 5 _ _ _ _ _)
  have HU := Lib.hid (callsIn_wide.2 (vupto_any k w1 (by omega)) : CallsIn Fence.wide 5 _ _ _ _ _)
  have H := Lib.hid (And.intro hB (And.intro hl (And.intro hV (And.intro hb1 (And.intro hz1 (And.intro b0 (And.intro b1 b2)))))))
  clear hB hl hV hb1 hz1 b0 b1 b2
  refine (callsIn_wide (n := 6)).1 ?_
  refine callsIn_of_wp_marks Try.func23 rfl trivial ?_ rfl
  simp only [Try.ntmps23, List.size_toArray, List.length_cons, List.length_nil, Nat.reduceAdd, Nat.reduceSub, Array.replicate_succ, Array.replicate_zero, List.push_toArray, List.append_toArray, List.nil_append, List.cons_append]
  gi_wp2
  refine ⟨trivial, ?_⟩
  rw [← hw1]
  clear hw1
  refine HN.out.mono ?_
  rintro e w' ⟨rfl, rfl⟩
  gi_wp2
  refine ⟨trivial, ?_⟩
  refine HU.out.mono ?_
  rintro e w2 ⟨A', c, rfl, hown, hb2⟩
  obtain ⟨gN, rfl, hgN, hgN2⟩ := own_some hown (by omega)
  have hIN : Ints w2 (some ⟨gN, 0, none⟩) (intL (List.range k)) := At.of_own hown
  have HO := Lib.hid (callsIn_wide.2 (vorders_any (some ⟨gN, 0, none⟩) k c w2) : CallsIn Fence.wide 5 _ _ _ _ _)
  gi_wp2
  refine ⟨trivial, ?_⟩
  refine HO.out.mono ?_
  rintro e w3 ⟨rfl, hw3⟩
  have hz1 := H.out.2.2.2.2.1
  have hz2 := hb2.size
  have hz3 : w3.heap.size = w2.heap.size + 1 := by rw [hw3]; simp
  have hb3 : Below w1.heap.size w1 w3 := by rw [hw3]; exact hb2.alloc hz2 _
  have hbn : Blk w3 w2.heap.size 23 #[.slice (some ⟨gN, 0, none⟩) k c] := by rw [hw3]; exact Blk.new _ _ _ rfl
  have hb23 : Below w2.heap.size w2 w3 := by rw [hw3]; exact (Below.refl _ _).alloc (Nat.le_refl _) _
  have hb03 : Below w.heap.size w w3 := H.out.2.2.2.1.trans (hb3.mono (by omega))
  have hI0 : KI k w.heap.size B w3 [] (w3.heap.size + 2) w3 := ⟨Kept.refl _ _ _, by omega, H.out.2.2.2.2.2.2.1.below hb3 (by omega), H.out.2.2.2.2.2.2.2.below hb3 (by omega)⟩
  have H3 := Lib.hid (And.intro hz1 (And.intro hz2 (And.intro hz3 (And.intro hb03 (And.intro hbn (And.intro (hIN.below hb23) (And.intro hI0 (And.intro (H.out.2.2.2.2.2.1.below hb3 (by omega)) (And.intro (H.out.2.2.1.below hb03) hgN)))))))))
  clear hw3 hown hb2 hIN hgN hgN2 hz1 hz2 hz3 hb3 hbn hb23 hb03 hI0 c0 HN HU HO
  gi_wp2
  refine wpIn_rangeOrders rfl w2.heap.size ⟨gN, 0, none⟩ c k rfl hk5 H3.out.2.2.2.2.1.at1.1 H3.out.2.2.2.2.2.1 [w.heap.size + 1, w.heap.size + 2] ?hC ?hBC ?hAC (KI k w.heap.size B w3) (fun _ _ _ => False)
    (KI.kept (by have := H3.out; omega)) (fun _ _ _ _ h _ => h) H3.out.2.2.2.2.2.2.1
    (fun v W a₁ w₁ => w₁ = W ∧ a₁ = { tmps := #[.slice A n cap, .pointer (some ⟨w.heap.size, 0, none⟩), .pointer (some ⟨w.heap.size + 1, 0, none⟩), .pointer (some ⟨w.heap.size + 1 + 1, 0, none⟩), v, undef, .slice A n cap, .int .i64 k, .slice (some ⟨gN, 0, none⟩) k c, .func (.func 49) #[] #[.pointer (some ⟨w2.heap.size, 0, none⟩)], v, undef, undef, undef, undef, undef, undef, undef, undef, undef, undef, undef, undef, undef, undef], defers := [] })
    (by rintro v W a₁ w₁ ⟨rfl, _⟩; exact Below.refl _ _) ?hassign ?hbody ?hdone (fun _ _ _ _ h _ => h.elim)
  case hC => intro x hx; have := H3.out; simp only [List.mem_cons, List.not_mem_nil, or_false] at hx; omega
  case hBC => intro hx; have := H3.out; simp only [List.mem_cons, List.not_mem_nil, or_false] at hx; omega
  case hAC => intro hx; have := H3.out; have : w1.heap.size ≤ gN := H3.out.2.2.2.2.2.2.2.2.2; simp only [List.mem_cons, List.not_mem_nil, or_false] at hx; omega
  case hassign =>
    intro l m gc c1 W K hK
    gi_wp2
  case hbody =>
    rintro l m os o po W gc c1 a₁ w₁ w₂ hI _ hodr hIp hgo hgc hgW hc1 hc2 ⟨rfl, rfl⟩ hheap hsz
    obtain ⟨hkp, hLo, hst⟩ := hI
    have hn1 : w.heap.size ∉ [w.heap.size + 1, w.heap.size + 2] := by simp
    have hb0 : Blk w₂ w.heap.size 37 #[.slice A n cap] := H3.out.2.2.2.2.2.2.2.1.kept hkp (by have := H3.out; omega) hn1
    have c0 := hb0.at1.1
    have hb02 : Below w.heap.size w w₂ := H3.out.2.2.2.1.trans ((hkp.mono (S' := []) (show w.heap.size ≤ w3.heap.size by have := H3.out; omega) (fun x hx => .inr (by simp only [List.mem_cons, List.not_mem_nil, or_false] at hx; omega))).below)
    have HD := Lib.hid (CallsIn.inRound l (callsIn_wide.2 (vdis_any A n cap k (some ⟨gc, 0, none⟩) c1 V B po w₂ H.out.1 H.out.2.1 (H.out.2.2.1.below hb02) hodr hIp hc1)) : CallsIn (Fence.wide.inRound l) (m - 1) _ _ _ _ _)
    have hdb := dis_bd (o := po) (by rw [hodr.len]; omega) B
    have hBl : B.length ≤ 9 := H.out.1.hB.2
    have hsnoc := Mid.kemTo_snoc B os po
    have hkem : Mid.kemTo B (os ++ [po]) = Mid.kstep B (Mid.kemTo B os) po := hsnoc
    have qT : ∀ (w : World) (a : Option Addr) (n c n' c' : Nat), (binOp .eql 23 (.slice a n c) (.slice none n' c')).run Try.prog w = .ok (.bool a.isNone) w := fun w a n c n' c' => Lib.run_eql_slice_nil w _ _ a n c n' c' Try.underlying23
    obtain ⟨d, hd⟩ : ∃ d, d = Mid.dis B po := ⟨_, rfl⟩
    rw [← hd] at HD hdb
    have hdb2 : d ≤ 225 := by omega
    have H2 := Lib.hid (And.intro hkp (And.intro hLo (And.intro hst (And.intro hodr (And.intro hIp (And.intro hkem hd))))))
    clear hkp hLo hst hodr hIp hkem hsnoc hd hheap hdb hb0 hb02 hn1
    gi_wp2
    refine ⟨trivial, ?_⟩
    refine ⟨fun h => (by cases h), ?_⟩
    refine HD.out.mono ?_
    rintro e w4 ⟨rfl, rfl⟩
    have hst := H2.out.2.2.1
    cases hs : Mid.kemTo B os with
    | none =>
      rw [hs] at hst
      obtain ⟨b1, b2⟩ := hst
      have hk2 : Mid.kemTo B (os ++ [po]) = some (po, d) := by rw [H2.out.2.2.2.2.2.1, hs, H2.out.2.2.2.2.2.2]; rfl
      obtain ⟨p1, p2⟩ := b1.at1
      obtain ⟨p3, p4⟩ := b2.at1
      have B1 := Lib.hid (And.intro b1 (And.intro b2 hk2))
      clear b1 b2 hk2 hs
      gi_wp2
      exact KI.store (by have := H3.out; omega) H2.out.1 H2.out.2.1 B1.out.1 B1.out.2.1 B1.out.2.2 H2.out.2.2.2.2.1 hgo hgc (by rw [hsz]; exact hgW) hc1 hc2
    | some st =>
      obtain ⟨best, least⟩ := st
      rw [hs] at hst
      obtain ⟨gb, cb, b1, b2, h3, h4, h5, h6, h7, h8⟩ := hst
      obtain ⟨p1, p2⟩ := b1.at1
      obtain ⟨p3, p4⟩ := b2.at1
      by_cases hlt : d < least
      · have hk2 : Mid.kemTo B (os ++ [po]) = some (po, d) := by
          rw [H2.out.2.2.2.2.2.1, hs]
          show (if Mid.dis B po < least then some (po, Mid.dis B po) else some (best, least)) = _
          rw [← H2.out.2.2.2.2.2.2, if_pos hlt]
        have l1 : (d : Int) < (least : Int) := by omega
        have B1 := Lib.hid (And.intro b1 (And.intro b2 hk2))
        clear b1 b2 hk2 hs h3
        gi_wp2
        exact KI.store (by have := H3.out; omega) H2.out.1 H2.out.2.1 B1.out.1 B1.out.2.1 B1.out.2.2 H2.out.2.2.2.2.1 hgo hgc (by rw [hsz]; exact hgW) hc1 hc2
      · have hk2 : Mid.kemTo B (os ++ [po]) = some (best, least) := by
          rw [H2.out.2.2.2.2.2.1, hs]
          show (if Mid.dis B po < least then some (po, Mid.dis B po) else some (best, least)) = _
          rw [← H2.out.2.2.2.2.2.2, if_neg hlt]
        have l1 : ¬ (d : Int) < (least : Int) := by omega
        have HK : Hid (KI k w.heap.size B w3 (os ++ [po]) o w₂) := Lib.hid ⟨H2.out.1, H2.out.2.1, by rw [hk2]; exact ⟨gb, cb, b1, b2, h3, h4, h5, h6, h7, h8⟩⟩
        clear b1 b2 hk2 hs h3
        gi_wp2
        exact ⟨Kept.refl _ _ _, HK.out⟩
  case hdone =>
    rintro o W ⟨hkp, hLo, hst⟩ hD
    have hne : Mid.kemTo B (Mid.allO k) ≠ none := by
      intro h
      rcases Mid.kemTo_min B (Mid.allO k) _ rfl with ⟨h1, _⟩ | ⟨b, l, h1, _⟩
      · have : List.range k ∈ Mid.allO k := Mid.allO_mem.2 ⟨by simp, List.nodup_range, fun x => List.mem_range⟩
        rw [h1] at this; cases this
      · rw [h] at h1; cases h1
    cases hs : Mid.kemTo B (Mid.allO k) with
    | none => exact absurd hs hne
    | some st =>
      obtain ⟨best, least⟩ := st
      rw [hs] at hst
      obtain ⟨gb, cb, b1, b2, h3, h4, h5, h6, h7, h8⟩ := hst
      obtain ⟨p1, p2⟩ := b1.at1
      obtain ⟨p3, p4⟩ := b2.at1
      have HS := Lib.hid (And.intro hs (And.intro hkp (And.intro hLo (And.intro b1 (And.intro b2 (And.intro h3 hD))))))
      clear hs hkp hLo b1 b2 h3 hne hD
      gi_wp2
      have hmo : Try.prog.follows Departure.mixedOrders = true := by kernel_rfl
      gi_region_with_o (fail)
      all_goals gi_wp2
      all_goals (
        obtain ⟨wf, hwf⟩ : ∃ wf, wf = ((W.setCell ⟨w.heap.size + 1, 0, none⟩ (.slice (some ⟨gb, 0, none⟩) k cb)).setCell ⟨w.heap.size + 1 + 1, 0, none⟩ (.int .i64 (least : Int))).drew := ⟨_, rfl⟩
        rw [← hwf]
        have hb3 := H3.out
        have hsz := HS.out.2.1.size
        have hD : wf.heap[w3.heap.size]? = some (.deferred (some [])) := by
          rw [hwf]
          exact ((Below.heap_setCell _ _ _ _ (by show w3.heap.size ≠ w.heap.size + 1 + 1; omega)).trans (Below.heap_setCell _ _ _ _ (by show w3.heap.size ≠ w.heap.size + 1; omega))).trans HS.out.2.2.2.2.2.2
        obtain ⟨wz, hwz⟩ : ∃ wz, wz = wf.putObj w3.heap.size (.deferred none) := ⟨_, rfl⟩
        have hKz : Kept W.heap.size [w.heap.size + 1, w.heap.size + 2, w3.heap.size] W wz := by
          rw [hwz, hwf]
          exact ((((Kept.refl _ _ _).setCell (.inl (by simp)) _).setCell (.inl (by simp)) _).drew).putObj (.inl (by simp)) _
        have z1 : Blk wz (w.heap.size + 1) 23 #[.slice (some ⟨gb, 0, none⟩) k cb] := by
          rw [hwz, hwf]
          exact (World.putObj_heap_other (by omega)).trans ((HS.out.2.2.2.1.set_ 0 _).far (by show w.heap.size + 1 ≠ w.heap.size + 1 + 1; omega) _)
        have z2 : Blk wz (w.heap.size + 2) 3 #[.int .i64 (least : Int)] := by
          rw [hwz, hwf]
          exact (World.putObj_heap_other (by omega)).trans ((HS.out.2.2.2.2.1.far (by show w.heap.size + 2 ≠ w.heap.size + 1; omega) _).set_ 0 _)
        have s0 := z1.at1.1
        have s1 : wz.cell? ⟨w.heap.size + 1 + 1, 0, none⟩ = some (.int .i64 (least : Int)) := z2.at1.1
        have hIz : Ints wz (some ⟨gb, 0, none⟩) (intL best) := by
          intro i v hv
          obtain ⟨ad, he, hc⟩ := HS.out.2.2.2.2.2.1 i v hv
          injection he with he
          refine ⟨ad, by rw [he], ?_⟩
          rw [hKz.cell (by rw [add_block, ← he]; exact h6) (by rw [add_block, ← he]; simp; omega)]; exact hc
        have hBz : Below w.heap.size w wz := hb3.2.2.2.1.trans (((HS.out.2.1.mono (S' := []) (show w.heap.size ≤ w3.heap.size by omega) (fun x hx => .inr (by simp only [List.mem_cons, List.not_mem_nil, or_false] at hx; omega))).trans
          (hKz.mono (S' := []) (by omega) (fun x hx => .inr (by simp only [List.mem_cons, List.not_mem_nil, or_false] at hx; omega)))).below)
        rw [hwz] at s0 s1 hIz hBz
        refine ⟨by simp, .inl ⟨_, _, rfl, run_takeDeferred hD, ?_⟩⟩
        exact ⟨.tuple #[.slice (some ⟨gb, 0, none⟩) k cb, .int .i64 (least : Int)], by simp [results, Try.results23, go_sem, s0, s1], gb, cb, best, least, rfl, HS.out.1, hIz, h7, h8, hBz⟩)
end Go.Proofs.Ytpoibiakfjkebaa
