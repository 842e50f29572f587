/- Laws and contracts that the proof of TopBird uses, part 4. -/
import Derived.Test.YtifmekijdepokaaDoorTopBirdM3
import Derived.Test.YtifmekijdepokaaDoorTopBirdM2
import Derived.Test.YtifmekijdepokaaDoorTopBirdM1
import Derived.BigQuiet
import Derived.Laws.CopyOwn
import Derived.Deep.RegionLaw
import Derived.Laws.AppendOwnNone
namespace Go.Proofs.YtifmekijdepokaaDoor
open Go.RowKit

/- Contract: Core of package games. -/

theorem cmbs_mem {N : Nat} : ∀ (m fr : Nat) (pre s : List Nat), s ∈ cmbs N m fr pre → ∃ t, s = pre ++ t ∧ t.length = m ∧ t.Pairwise (· < ·) ∧ ∀ x ∈ t, fr ≤ x ∧ x < N := by
  intro m
  induction m with
  | zero =>
    intro fr pre s h
    simp only [cmbs, List.mem_singleton] at h
    exact ⟨[], by simp [h], rfl, List.Pairwise.nil, fun x hx => by cases hx⟩
  | succ m ih =>
    intro fr pre s h
    simp only [cmbs, List.mem_flatMap] at h
    obtain ⟨a, ha, hs⟩ := h
    obtain ⟨t, rfl, htl, htp, htb⟩ := ih _ _ _ hs
    rw [List.mem_range'_1] at ha
    refine ⟨a :: t, by simp, by simp [htl], List.pairwise_cons.2 ⟨fun x hx => by have := htb x hx; omega, htp⟩, fun x hx => ?_⟩
    rcases List.mem_cons.1 hx with e | e
    · omega
    · have := htb x e; omega
theorem cmb_mem {N k : Nat} {s : List Nat} (h : s ∈ cmb N k) : s.length = k ∧ s.Pairwise (· < ·) ∧ ∀ x ∈ s, 1 ≤ x ∧ x < N := by
  obtain ⟨t, rfl, h1, h2, h3⟩ := cmbs_mem k 1 [] s h
  exact ⟨by simpa using h1, by simpa using h2, by simpa using h3⟩

/-- What Core answers. -/
def coreF (c : List Int) : Option (List Rat) := (cmb c.length (plr c)).findSome? (cand c (plr c))
theorem findSome_at {α β : Type} {f : α → Option β} {L : List α} {t : Nat} {x : α} {y : β} (hx : L[t]? = some x) (hn : ∀ s, s < t → ∀ z, L[s]? = some z → f z = none) (hy : f x = some y) : L.findSome? f = some y := by
  induction L generalizing t with
  | nil => simp at hx
  | cons a L ih =>
    cases t with
    | zero =>
      simp only [List.getElem?_cons_zero, Option.some.injEq] at hx
      subst hx
      simp [hy]
    | succ t =>
      have h0 := hn 0 (by omega) a rfl
      rw [List.findSome?_cons, h0]
      exact ih (by simpa using hx) (fun s hs z hz => hn (s + 1) (by omega) z (by simpa using hz))
theorem findSome_no {α β : Type} {f : α → Option β} {L : List α} (hn : ∀ s, s < L.length → ∀ z, L[s]? = some z → f z = none) : L.findSome? f = none := by
  rw [List.findSome?_eq_none_iff]
  intro x hx
  obtain ⟨s, hs⟩ := List.getElem?_of_mem hx
  exact hn s (List.getElem?_eq_some_iff.1 hs).1 x hs

/-- What Core leaves. -/
def CorePost (c : List Int) (w : World) (e : Ending) (w' : World) : Prop :=
  Below w.heap.size w w' ∧ ((valC c = false ∧ e = .returned (.tuple #[.slice none 0 0, .int .i64 2])) ∨ (valC c = true ∧ coreF c = none ∧ e = .returned (.tuple #[.slice none 0 0, .int .i64 4])) ∨
    (valC c = true ∧ ∃ qs A' c', coreF c = some qs ∧ e = .returned (.tuple #[.slice A' (plr c) c', .int .i64 0]) ∧ qs.length = plr c ∧ Fracs w' A' qs ∧ plr c ≤ c' ∧ c' ≤ 9223372036854775807))

/-- What holds between the calls of the function. -/
structure CoreI (c : List Int) (A0 : Option Addr) (N cap0 n Bc Bk Bf : Nat) (t : Nat) (w : World) : Prop where
  bc : Blk w Bc 22 #[.slice A0 N cap0]
  bk : Blk w Bk 64 #[.slice A0 N cap0]
  bf : Blk w Bf 35 #[.slice none 0 0]
  hc : Ints w A0 c
  lt : ∀ ad, A0 = some ad → ad.block < Bc
  no : ∀ s, s < t → ∀ z, (cmb N n)[s]? = some z → cand c n z = none
def CoreD (c : List Int) (n Bf : Nat) (w : World) : Prop := ∃ qs A' c', coreF c = some qs ∧ Blk w Bf 35 #[.slice A' n c'] ∧ qs.length = n ∧ Fracs w A' qs ∧ n ≤ c' ∧ c' ≤ 9223372036854775807

theorem entF_core1 : EntF 39 := entF_of Tryd.func39 (by kernel_rfl) (by kernel_rfl)

theorem ints_kept {B : Nat} {S : List Nat} {w w' : World} {A : Option Addr} {xs : List Int} (h : Ints w A xs) (hk : Kept B S w w') (hA : ∀ ad, A = some ad → ad.block < B ∧ ad.block ∉ S) : Ints w' A xs := by
  intro i v hv
  obtain ⟨ad, had, hc⟩ := h i v hv
  have := hA ad had
  exact ⟨ad, had, (hk.cell (by rw [add_block]; exact this.1) (by rw [add_block]; exact this.2)).trans hc⟩

set_option maxRecDepth 100000 in
set_option maxHeartbeats 3200000 in
theorem core_any (A0 : Option Addr) (N cap0 : Nat) (c : List Int) (w : World) (hl : c.length = N) (hN : N ≤ 9223372036854775807) (hc : Ints w A0 c) :
    Calls Tryd.prog 16 #[.slice A0 N cap0] w (CorePost c w) := by
  have qT : ∀ (w : World) (a : Option Addr) (n c n' c' : Nat), (binOp .eql 35 (.slice a n c) (.slice none n' c')).run Tryd.prog w = .ok (.bool a.isNone) w := fun w a n c n' c' => Lib.run_eql_slice_nil w _ _ a n c n' c' Tryd.underlying35
  have hb2 : ∀ o1 o2, Below w.heap.size w ((w.alloc o1).alloc o2) := fun o1 o2 => ((Below.refl _ _).alloc (Nat.le_refl _) _).alloc (by go_size) _
  have hB1 : Blk ((w.alloc (.cells #[.slice A0 N cap0] 22)).alloc (.cells #[.slice A0 N cap0] 64)) w.heap.size 22 #[.slice A0 N cap0] := (Blk.new _ _ _ rfl).alloc _
  have hB2 : Blk ((w.alloc (.cells #[.slice A0 N cap0] 22)).alloc (.cells #[.slice A0 N cap0] 64)) (w.heap.size + 1) 64 #[.slice A0 N cap0] := Blk.new _ _ _ (by simp)
  have had : ∀ ad, A0 = some ad → valC c = true → ad.block < w.heap.size := by
    intro ad had hv
    have h := plr_np hv
    obtain ⟨ad', h1, h2, _⟩ := hc.some_ (by omega)
    rw [had] at h1
    injection h1 with h1
    rw [h1]; exact h2
  have HAD0 := Lib.hid had
  clear had
  have H := Lib.hid (And.intro hl (And.intro hc (And.intro (hb2 (.cells #[.slice A0 N cap0] 22) (.cells #[.slice A0 N cap0] 64)) (And.intro hB1 hB2))))
  clear hl hc hb2 hB1 hB2
  go_enter Tryd.func16, Tryd.ntmps16
  go_wp2_with fail
  refine (valid_any A0 N cap0 c _ H.out.1 hN (H.out.2.1.below H.out.2.2.1)).mono ?_
  rintro e w1 ⟨rfl, hb1⟩
  obtain ⟨v, hv⟩ : ∃ v, v = valC c := ⟨_, rfl⟩
  rw [← hv]
  have hbl1 : Below w.heap.size w w1 := H.out.2.2.1.trans (hb1.mono (by simp; omega))
  have hk1 := H.out.2.2.2.1.below hb1 H.out.2.2.2.1.lt
  have hk2 := H.out.2.2.2.2.below hb1 H.out.2.2.2.2.lt
  have H1 := Lib.hid (And.intro hv (And.intro hbl1 (And.intro hk1 hk2)))
  have o1 := hk1.at1.1
  have o2 := hk2.at1.1
  have hz1 := hk2.lt
  clear hv hb1 hbl1 hk1 hk2
  cases v
  · go_wp2_with fail
    go_ret2
    exact ⟨H1.out.2.1, .inl ⟨H1.out.1.symm, rfl⟩⟩
  · have hvc := H1.out.1.symm
    obtain ⟨n, hn⟩ : ∃ n, n = plr c := ⟨_, rfl⟩
    have hnp := plr_np hvc
    rw [H.out.1, ← hn] at hnp
    have hn4 : 1 ≤ n ∧ n ≤ 4 := by omega
    have hN16 : N ≤ 16 := by omega
    have HAD := Lib.hid (fun ad had => HAD0.out ad had hvc)
    have HN := Lib.hid (And.intro hnp (And.intro hn hvc))
    clear hvc hnp hn
    go_wp2_with fail
    obtain ⟨w2, hw2⟩ : ∃ w2, w2 = w1.alloc (.cells #[.slice none 0 0] 35) := ⟨_, rfl⟩
    have hb12 : Below w1.heap.size w1 w2 := by rw [hw2]; exact (Below.refl _ _).alloc (Nat.le_refl _) _
    have hB3 : Blk w2 w1.heap.size 35 #[.slice none 0 0] := by rw [hw2]; exact Blk.new _ _ _ rfl
    have hk1 := H1.out.2.2.1.below hb12 H1.out.2.2.1.lt
    have hk2 := H1.out.2.2.2.below hb12 H1.out.2.2.2.lt
    have hw12 := H1.out.2.1.size
    have hbw2 : Below w.heap.size w w2 := H1.out.2.1.trans (hb12.mono hw12)
    have H2 := Lib.hid (And.intro hk1 (And.intro hk2 (And.intro hB3 hbw2)))
    have q2 := hk2.at1.1
    have hB3lt := hB3.lt
    rw [← hw2]
    clear hw2 hb12 hB3 hk1 hk2 hbw2 o1 o2
    refine wp_region_drew_tail 4 (by kernel_rfl) (by kernel_rfl) ?_
    simp only [List.take_succ_cons, List.take_zero, List.drop_succ_cons, List.drop_zero]
    repeat (go_big_quiet_step ((go_at_call 24; exact players_q _ _ _ _ _ _ HN.out.1)))
    refine wpQuiet_nil ?_
    rintro _ ⟨nq, rfl⟩
    have hst : CoreI c A0 N cap0 n w.heap.size (w.heap.size + 1) w1.heap.size 0 (w2.drewN nq) := ⟨H2.out.1.drewN _, H2.out.2.1.drewN _, H2.out.2.2.1.drewN _, H.out.2.1.below (below_drewN H2.out.2.2.2 _), HAD.out, fun s hs => by omega⟩
    have hwz : (w2.drewN nq).heap.size = w2.heap.size := rfl
    have HT := Lib.hid (tight_any A0 N cap0 n 39 #[.pointer (some ⟨w.heap.size, 0, none⟩), .pointer (some ⟨w.heap.size + 1, 0, none⟩), .pointer (some ⟨w1.heap.size, 0, none⟩)] [w1.heap.size] (w2.drewN nq) (CoreI c A0 N cap0 n w.heap.size (w.heap.size + 1) w1.heap.size) (CoreD c n w1.heap.size)
      (fun x hx => by rw [List.mem_singleton.1 hx]; exact hB3lt) entF_core1 hN16 hn4 hst
      (fun t wa wb h hb => ⟨h.bc.below hb (by rw [hwz]; omega), h.bk.below hb (by rw [hwz]; omega), h.bf.below hb (by rw [hwz]; omega), by
        intro i v hv
        obtain ⟨ad, had, hcell⟩ := h.hc i v hv
        have hlt := h.lt ad had
        exact ⟨ad, had, (hb.cell (by rw [add_block, hwz]; omega)).trans hcell⟩, h.lt, h.no⟩)
      (by
        intro t wa A cs sets hsets hI hA hcs hcs2 hwa
        have hm := cmb_mem (List.mem_of_getElem? hsets)
        refine (core1_any A0 N cap0 n c w.heap.size (w.heap.size + 1) w1.heap.size A cs sets wa hI.hc H.out.1 HN.out.2.2 HN.out.2.1.symm hm.1 (fun s hs => (hm.2.2 s hs).2) hA hI.bc hI.bk hI.bf).mono ?_
        rintro e wb ⟨hk, hres⟩
        refine ⟨hk, ?_⟩
        rcases hres with ⟨hno, he, hbf⟩ | ⟨qs, A', c', hs, he, hbf, h4, h5, h6, h7⟩
        · refine .inl ⟨he, ⟨hI.bc.kept hk hI.bc.lt (by simp; omega), hI.bk.kept hk hI.bk.lt (by simp; omega), hbf, ?_, hI.lt, ?_⟩⟩
          · exact ints_kept hI.hc hk fun ad had => by
              have hlt := hI.lt ad had
              exact ⟨by rw [hwz] at hwa; omega, by simp; omega⟩
          · intro s hs z hz
            rcases Nat.lt_succ_iff_lt_or_eq.1 hs with h | h
            · exact hI.no s h z hz
            · rw [h, hsets] at hz
              injection hz with hz
              rw [← hz]; exact hno
        · refine .inr ⟨he, qs, A', c', ?_, hbf, h4, h5, h6, h7⟩
          unfold coreF
          rw [H.out.1, ← HN.out.2.1]
          exact findSome_at hsets hI.no hs))
    clear hst hwz q2
    go_wp2_with fail
    refine HT.out.mono ?_
    rintro e w3 ⟨rfl, hk3, hres⟩
    have hwz : (w2.drewN nq).heap.size = w2.heap.size := rfl
    have hb3 : Below w.heap.size w w3 := by
      have h1 : Kept w.heap.size [] w (w2.drewN nq) := Kept.of_below (below_drewN H2.out.2.2.2 nq) _
      have h2 : Kept w.heap.size [] (w2.drewN nq) w3 := hk3.mono (by rw [hwz]; omega) (fun x hx => by rw [List.mem_singleton.1 hx]; exact .inr (by omega))
      exact (h1.trans h2).below
    have HB3 := Lib.hid hb3
    rcases hres with hI | ⟨qs, A', c', hs, hbf, h4, h5, h6, h7⟩
    · have HI := Lib.hid hI
      have f1 := hI.bf.at1.1
      have HF : Hid (coreF c = none) := Lib.hid (by
        unfold coreF
        rw [H.out.1, ← HN.out.2.1]
        exact findSome_no hI.no)
      clear hI hk3 hb3 hwz
      go_wp2_with fail
      go_ret2
      exact ⟨HB3.out, .inr (.inl ⟨HN.out.2.2, HF.out, rfl⟩)⟩
    · obtain ⟨aa, rfl⟩ : ∃ aa, A' = some aa := by
        obtain ⟨aa, h, _⟩ := h5.some_ (by omega)
        exact ⟨aa, h⟩
      have f1 := hbf.at1.1
      have HF := Lib.hid (And.intro hs (And.intro h4 (And.intro h5 hbf)))
      clear hs h4 h5 hbf hk3 hb3 hwz
      go_wp2_with fail
      go_ret2
      refine ⟨HB3.out, .inr (.inr ⟨HN.out.2.2, qs, some aa, c', HF.out.1, ?_, ?_, HF.out.2.2.1, ?_, h7⟩)⟩
      · rw [← HN.out.2.1]; rfl
      · rw [← HN.out.2.1]; exact HF.out.2.1
      · rw [← HN.out.2.1]; exact h6

/- If there are payments in the core, Core finds some. Plain Lean. -/

/-- A cost, as a fraction. -/
def cq (c : List Int) (s : Nat) : Rat := ((c.getD s 0 : Int) : Rat)
/-- Payments in the core. -/
def InC (c : List Int) (n : Nat) (x : Nat → Rat) : Prop := dotS n x (2 ^ n - 1) = cq c (2 ^ n - 1) ∧ ∀ s, s < 2 ^ n → dotS n x s ≤ cq c s
/-- The sets that pay what they cost. -/
def tgt (c : List Int) (n : Nat) (x : Nat → Rat) (s : Nat) : Bool := decide (dotS n x s = cq c s)
def tights (c : List Int) (n : Nat) (x : Nat → Rat) : List Nat := (List.range' 1 (2 ^ n - 1)).filter (tgt c n x)
def loose (c : List Int) (n : Nat) (x : Nat → Rat) : List Nat := (List.range' 1 (2 ^ n - 1)).filter fun s => !tgt c n x s

theorem exists_min (f : Nat → Rat) : ∀ L : List Nat, L ≠ [] → ∃ a ∈ L, ∀ b ∈ L, f a ≤ f b := by
  intro L
  induction L with
  | nil => intro h; exact absurd rfl h
  | cons a L ih =>
    intro _
    by_cases e : L = []
    · subst e
      exact ⟨a, List.mem_cons_self .., fun b hb => by rw [List.mem_singleton.1 hb]; exact Rat.le_refl⟩
    · obtain ⟨m, hm, hmin⟩ := ih e
      by_cases h : f a ≤ f m
      · refine ⟨a, List.mem_cons_self .., fun b hb => ?_⟩
        rcases List.mem_cons.1 hb with rfl | hb
        · exact Rat.le_refl
        · exact Rat.le_trans h (hmin b hb)
      · refine ⟨m, List.mem_cons_of_mem _ hm, fun b hb => ?_⟩
        rcases List.mem_cons.1 hb with rfl | hb
        · grind
        · exact hmin b hb
theorem filter_le_of {p q : Nat → Bool} {L : List Nat} (h : ∀ s ∈ L, q s = true → p s = true) : (L.filter q).length ≤ (L.filter p).length := by
  induction L with
  | nil => exact Nat.le_refl _
  | cons a L ih =>
    have h1 := ih fun s hs => h s (List.mem_cons_of_mem _ hs)
    have h2 := h a (List.mem_cons_self ..)
    rw [List.filter_cons, List.filter_cons]
    cases hq : q a
    · rw [if_neg (by decide)]
      split
      · rw [List.length_cons]; omega
      · exact h1
    · rw [if_pos rfl, h2 hq, if_pos rfl, List.length_cons, List.length_cons]; omega
theorem filter_lt_of {p q : Nat → Bool} {L : List Nat} (h : ∀ s ∈ L, q s = true → p s = true) {a : Nat} (ha : a ∈ L) (hp : p a = true) (hq : q a = false) : (L.filter q).length < (L.filter p).length := by
  induction L with
  | nil => cases ha
  | cons b L ih =>
    have h0 := filter_le_of (fun s hs => h s (List.mem_cons_of_mem b hs))
    have h2 := h b (List.mem_cons_self ..)
    rw [List.filter_cons, List.filter_cons]
    rcases List.mem_cons.1 ha with rfl | ha
    · rw [if_neg (by rw [hq]; decide), if_pos hp, List.length_cons]; omega
    · have h1 := ih (fun s hs => h s (List.mem_cons_of_mem _ hs)) ha
      cases hq : q b
      · rw [if_neg (by decide)]
        split
        · rw [List.length_cons]; omega
        · exact h1
      · rw [if_pos rfl, h2 hq, if_pos rfl, List.length_cons, List.length_cons]; omega
theorem bq_cases (s i : Nat) : bq s i = 0 ∨ bq s i = 1 := by
  unfold bq
  rcases bitI_cases s i with h | h <;> rw [h]
  · exact .inl (by simp)
  · exact .inr (by simp)
theorem bq_one {i j : Nat} : bq (2 ^ i) j = if i = j then 1 else 0 := by
  unfold bq bitI
  rw [Nat.testBit_two_pow]
  by_cases e : i = j
  · simp [e]
  · simp [e]
theorem bq_all {n i : Nat} (h : i < n) : bq (2 ^ n - 1) i = 1 := by
  unfold bq bitI
  rw [Nat.testBit_two_pow_sub_one, decide_eq_true h, if_pos rfl]
  simp
theorem dot_one {n i : Nat} (h : i < n) (d : Nat → Rat) : dotS n d (2 ^ i) = d i := by
  unfold dotS
  rw [sumQ_one h (fun j hj hne => by rw [bq_one, if_neg (fun e => hne e.symm)]; grind), bq_one, if_pos rfl]
  grind
theorem dot_all (n : Nat) (d : Nat → Rat) : dotS n d (2 ^ n - 1) = sumQ d n := by
  unfold dotS
  exact sumQ_congr fun i hi => by rw [bq_all hi]; grind
theorem dot_empty (n : Nat) (d : Nat → Rat) : dotS n d 0 = 0 := by
  unfold dotS
  exact sumQ_zero fun i _ => by simp [bq, bitI]
theorem mem_sets {n s : Nat} : s ∈ List.range' 1 (2 ^ n - 1) ↔ 1 ≤ s ∧ s < 2 ^ n := by
  rw [List.mem_range'_1]
  have := Nat.two_pow_pos n
  omega

/-- One step towards a corner. -/
theorem move {c : List Int} {n : Nat} {x : Nat → Rat} (hn : 1 ≤ n) (hx : InC c n x) (hs : ¬ Spn n (tights c n x)) : ∃ x', InC c n x' ∧ (loose c n x').length < (loose c n x).length := by
  obtain ⟨d, hd, i, hi, hdi⟩ : ∃ d : Nat → Rat, (∀ s ∈ tights c n x, dotS n d s = 0) ∧ ∃ i, i < n ∧ 0 < d i := by
    apply Classical.byContradiction
    intro hno
    apply hs
    intro d hd i hi
    apply Classical.byContradiction
    intro hne
    by_cases h0 : 0 < d i
    · exact hno ⟨d, hd, i, hi, h0⟩
    · refine hno ⟨fun j => 0 + (-1) * d j, fun s hs => ?_, i, hi, by dsimp only; grind⟩
      rw [dot_add n (fun _ => 0) d, hd s hs]
      have : dotS n (fun _ => (0 : Rat)) s = 0 := sumQ_zero fun i _ => by grind
      rw [this]; grind
  have hp : 2 ^ i ∈ (List.range' 1 (2 ^ n - 1)).filter fun s => decide (0 < dotS n d s) := by
    rw [List.mem_filter, mem_sets]
    refine ⟨⟨Nat.two_pow_pos i, Nat.pow_lt_pow_right (by decide) hi⟩, ?_⟩
    rw [dot_one hi]
    exact decide_eq_true hdi
  obtain ⟨m, hm, hmin⟩ := exists_min (fun s => (cq c s - dotS n x s) * (dotS n d s)⁻¹) _ (List.ne_nil_of_mem hp)
  rw [List.mem_filter, decide_eq_true_eq, mem_sets] at hm
  have htight : ∀ s, 1 ≤ s → s < 2 ^ n → dotS n x s = cq c s → dotS n d s = 0 := fun s h1 h2 h3 => hd s (List.mem_filter.2 ⟨mem_sets.2 ⟨h1, h2⟩, decide_eq_true h3⟩)
  obtain ⟨t, ht⟩ : ∃ t, t = (cq c m - dotS n x m) * (dotS n d m)⁻¹ := ⟨_, rfl⟩
  have hinv : ∀ s, 0 < dotS n d s → 0 ≤ (dotS n d s)⁻¹ ∧ dotS n d s * (dotS n d s)⁻¹ = 1 := fun s hs => ⟨Rat.le_of_lt (Rat.inv_pos.2 hs), Rat.mul_inv_cancel _ (fun e => by rw [e] at hs; exact absurd hs (by decide))⟩
  have hxm := hx.2 m hm.1.2
  have ht0 : 0 ≤ t := by
    rw [ht]
    exact Rat.mul_nonneg (by grind) (hinv m hm.2).1
  have hle : ∀ s, 1 ≤ s → s < 2 ^ n → dotS n x s + t * dotS n d s ≤ cq c s := by
    intro s h1 h2
    have hxs := hx.2 s h2
    by_cases h0 : 0 < dotS n d s
    · have h3 := hmin s (List.mem_filter.2 ⟨mem_sets.2 ⟨h1, h2⟩, decide_eq_true h0⟩)
      have h4 := Rat.mul_le_mul_of_nonneg_right h3 (Rat.le_of_lt h0)
      rw [← ht, Rat.mul_assoc, Rat.mul_comm (dotS n d s)⁻¹, (hinv s h0).2] at h4
      grind
    · have : t * dotS n d s ≤ 0 := by
        have h5 : 0 ≤ - dotS n d s := by grind
        have := Rat.mul_nonneg ht0 h5
        grind
      grind
  refine ⟨fun j => x j + t * d j, ⟨?_, fun s hs => ?_⟩, ?_⟩
  · rw [dot_add, htight _ (by have := Nat.pow_le_pow_right (show 0 < 2 by decide) hn; omega) (by have := Nat.two_pow_pos n; omega) hx.1, hx.1]
    grind
  · rw [dot_add]
    by_cases h1 : 1 ≤ s
    · exact hle s h1 hs
    · obtain rfl : s = 0 := by omega
      have := hx.2 0 hs
      rw [dot_empty] at this ⊢
      rw [dot_empty]
      grind
  · unfold loose
    refine filter_lt_of (a := m) (fun s hs h => ?_) (mem_sets.2 hm.1) ?_ ?_
    · rw [Bool.not_eq_true'] at h ⊢
      unfold tgt at h ⊢
      rw [decide_eq_false_iff_not] at h ⊢
      intro e
      apply h
      have := mem_sets.1 hs
      rw [dot_add, htight s this.1 this.2 e, e]
      grind
    · unfold tgt
      rw [Bool.not_eq_true', decide_eq_false_iff_not]
      intro e
      have := htight m hm.1.1 hm.1.2 e
      rw [this] at hm
      exact absurd hm.2 (by decide)
    · unfold tgt
      rw [Bool.not_eq_false', decide_eq_true_eq, dot_add, ht, Rat.mul_assoc, Rat.mul_comm (dotS n d m)⁻¹, (hinv m hm.2).2]
      grind
theorem corner {c : List Int} {n : Nat} (hn : 1 ≤ n) : ∀ (k : Nat) (x : Nat → Rat), (loose c n x).length ≤ k → InC c n x → ∃ x', InC c n x' ∧ Spn n (tights c n x') := by
  intro k
  induction k with
  | zero =>
    intro x hk hx
    refine ⟨x, hx, Classical.byContradiction fun h => ?_⟩
    obtain ⟨x', _, h2⟩ := move hn hx h
    omega
  | succ k ih =>
    intro x hk hx
    by_cases h : Spn n (tights c n x)
    · exact ⟨x, hx, h⟩
    · obtain ⟨x', h1, h2⟩ := move hn hx h
      exact ih x' (by omega) h1

/- Core finds payments exactly if there are some. Plain Lean. -/

theorem cmbs_of {N : Nat} : ∀ (m fr : Nat) (pre t : List Nat), t.length = m → t.Pairwise (· < ·) → (∀ x ∈ t, fr ≤ x ∧ x < N) → pre ++ t ∈ cmbs N m fr pre := by
  intro m
  induction m with
  | zero =>
    intro fr pre t hl _ _
    obtain rfl := List.length_eq_zero_iff.1 hl
    simp [cmbs]
  | succ m ih =>
    intro fr pre t hl hp hb
    cases t with
    | nil => cases hl
    | cons a t =>
      have ha := hb a (List.mem_cons_self ..)
      simp only [cmbs, List.mem_flatMap]
      refine ⟨a, by rw [List.mem_range'_1]; omega, ?_⟩
      have := ih (a + 1) (pre ++ [a]) t (by simpa using hl) (List.pairwise_cons.1 hp).2 fun x hx => ⟨(List.pairwise_cons.1 hp).1 x hx, (hb x (List.mem_cons_of_mem _ hx)).2⟩
      simpa using this
theorem cmb_of {N k : Nat} {s : List Nat} (hl : s.length = k) (hp : s.Pairwise (· < ·)) (hb : ∀ x ∈ s, 1 ≤ x ∧ x < N) : s ∈ cmb N k := cmbs_of k 1 [] s hl hp hb
theorem findSome_some {α β : Type} {f : α → Option β} {L : List α} {x : α} {y : β} (hx : x ∈ L) (hy : f x = some y) : ∃ z, L.findSome? f = some z := by
  cases h : L.findSome? f with
  | some z => exact ⟨z, rfl⟩
  | none =>
    have := List.findSome?_eq_none_iff.1 h x hx
    rw [this] at hy
    cases hy
theorem paysL_dot {qs : List Rat} {n : Nat} (hl : qs.length = n) (s : Nat) : paysL qs s = dotS n (fun i => qs.getD i 0) s := by
  have key : ∀ k, paysTo qs s k = sumQ (fun i => bq s i * qs.getD i 0) k := by
    intro k
    induction k with
    | zero => rfl
    | succ k ih =>
      rw [paysTo_succ, sumQ, ih]
      unfold bq bitI
      cases s.testBit k
      · simp only [Bool.false_eq_true, if_false]; simp; exact (Rat.add_zero _).symm
      · simp
  rw [show paysL qs s = paysTo qs s n from by rw [paysL, hl]; rfl]
  exact key n
theorem solQ_eq {x l : Int} (hl : l ≠ 0) : (l : Rat) * solQ x l = (x : Rat) := by
  have hq : (l : Rat) ≠ 0 := by simpa using hl
  unfold solQ
  rw [Rat.divInt_eq_div]
  by_cases h : l < 0
  · rw [if_pos h, show max l (-l) = -l from by omega, Rat.intCast_neg, Rat.intCast_neg]
    grind
  · rw [if_neg h, show max l (-l) = l from by omega]
    grind
theorem solQ_of {x l : Int} {y : Rat} (hl : l ≠ 0) (h : (l : Rat) * y + (x : Rat) * -1 = 0) : solQ x l = y := by
  have hq : (l : Rat) ≠ 0 := by simpa using hl
  have h1 := solQ_eq (x := x) hl
  have h2 : (l : Rat) * (solQ x l - y) = 0 := by grind
  rcases Rat.mul_eq_zero.1 h2 with h3 | h3
  · exact absurd h3 hq
  · grind
theorem solQ_den {x l : Int} (hl : l ≠ 0) (hb : l.natAbs ≤ 8) : ((solQ x l).den : Int) ≤ 8 := by
  unfold solQ
  have := divInt_den_le (a := if l < 0 then -x else x) (b := max l (-l)) (by omega)
  omega
theorem num_bd {q : Rat} {d m : Int} (hd : (q.den : Int) ≤ d) (hm : 0 ≤ m) (h1 : -(m : Rat) ≤ q) (h2 : q ≤ (m : Rat)) : -(m * d) ≤ q.num ∧ q.num ≤ m * d := by
  have hp := den_pos q
  have hdq : (0 : Rat) < ((q.den : Int) : Rat) := (Rat.intCast_lt_intCast (a := 0) (b := (q.den : Int))).2 hp
  have hd0 : ((q.den : Int) : Rat) ≠ 0 := fun e => by rw [e] at hdq; exact absurd hdq (by decide)
  have e2 : q * ((q.den : Int) : Rat) = (q.num : Rat) := by
    have e := Rat.num_divInt_den q
    rw [Rat.divInt_eq_div] at e
    have e3 : (q.num : Rat) / ((q.den : Int) : Rat) * ((q.den : Int) : Rat) = (q.num : Rat) := Rat.div_mul_cancel hd0
    rw [e] at e3
    exact e3
  have a1 := Rat.mul_le_mul_of_nonneg_right h1 (Rat.le_of_lt hdq)
  have a2 := Rat.mul_le_mul_of_nonneg_right h2 (Rat.le_of_lt hdq)
  rw [e2] at a1 a2
  have b1 : -(m * (q.den : Int)) ≤ q.num := by
    rw [← Rat.intCast_le_intCast, Rat.intCast_neg, Rat.intCast_mul]
    grind
  have b2 : q.num ≤ m * (q.den : Int) := by
    rw [← Rat.intCast_le_intCast, Rat.intCast_mul]
    exact a2
  have b3 : m * (q.den : Int) ≤ m * d := Int.mul_le_mul_of_nonneg_left hd hm
  omega
theorem sumQ_le {f : Nat → Rat} {a : Rat} : ∀ n : Nat, (∀ i, i < n → f i ≤ a) → sumQ f n ≤ (n : Rat) * a := by
  intro n
  induction n with
  | zero => intro _; simp [sumQ]
  | succ n ih =>
    intro h
    have h1 := ih fun i hi => h i (by omega)
    have h2 := h n (by omega)
    rw [sumQ, Rat.natCast_add]
    grind
/-- Payments in the core are small. -/
theorem inC_bd {c : List Int} {n : Nat} {x : Nat → Rat} (hcb : ∀ v ∈ c, 0 ≤ v ∧ v ≤ 1000) (hn4 : n ≤ 4) (h : InC c n x) {i : Nat} (hi : i < n) : -((4000 : Int) : Rat) ≤ x i ∧ x i ≤ ((4000 : Int) : Rat) := by
  have hc : ∀ s, (0 : Rat) ≤ cq c s ∧ cq c s ≤ 1000 := by
    intro s
    have := costs_get hcb s
    unfold cq
    have a := (Rat.intCast_le_intCast (a := 0) (b := c.getD s 0)).2 this.1
    have b := (Rat.intCast_le_intCast (a := c.getD s 0) (b := 1000)).2 this.2
    exact ⟨by simpa using a, by simpa using b⟩
  have hx : ∀ j, j < n → x j ≤ 1000 := by
    intro j hj
    have h1 := h.2 (2 ^ j) (Nat.pow_lt_pow_right (by decide) hj)
    rw [dot_one hj] at h1
    exact Rat.le_trans h1 (hc _).2
  have h1 := h.1
  rw [dot_all] at h1
  have e : sumQ x n = sumQ (fun j => (if j = i then x i else 0) + (if j = i then 0 else x j)) n := sumQ_congr fun j hj => by
    by_cases e : j = i
    · rw [if_pos e, if_pos e, e]; grind
    · rw [if_neg e, if_neg e]; grind
  rw [e, sumQ_add, sumQ_one hi (fun j hj hne => by rw [if_neg hne]), if_pos rfl] at h1
  have h2 := sumQ_le (f := fun j => if j = i then 0 else x j) (a := 1000) n fun j hj => by
    split
    · decide
    · exact hx j hj
  have h3 : (n : Rat) ≤ 4 := by
    have := (Rat.intCast_le_intCast (a := (n : Int)) (b := 4)).2 (by omega)
    rw [Rat.intCast_natCast] at this
    exact this
  have h4 := hx i hi
  have h5 := (hc (2 ^ n - 1)).1
  refine ⟨?_, ?_⟩
  · simp only [Rat.intCast_ofNat]
    grind
  · simp only [Rat.intCast_ofNat]
    grind
/-- The checks by whole numbers say that payments are in the core. -/
theorem ccB_in {c : List Int} {qs : List Rat} {n : Nat} (hv : valC c = true) (hn : plr c = n) (hl : qs.length = n) (hq : ∀ q ∈ qs, smallQ q) : ccB c (qs.map pr) = true ↔ InC c n (fun i => qs.getD i 0) := by
  unfold ccB coreI
  rw [hv, if_pos rfl, hn, Bool.and_eq_true, sumB_R hl hq, coreTo_R hl hq, decide_eq_true_eq, paysL_dot hl]
  refine and_congr Iff.rfl ?_
  unfold coreRTo
  rw [List.all_eq_true]
  constructor
  · intro h s hs
    have := h s (List.mem_range.2 hs)
    rw [Bool.not_eq_true', decide_eq_false_iff_not, paysL_dot hl, Rat.not_lt] at this
    exact this
  · intro h s hs
    rw [Bool.not_eq_true', decide_eq_false_iff_not, paysL_dot hl, Rat.not_lt]
    exact h s (List.mem_range.1 hs)
theorem entry_row {c : List Int} {n : Nat} {sets : List Nat} (hl : sets.length = n) {i : Nat} (hi : i < n) : (∀ j, j < n → entry (sysC c n sets) i j = bitI (sets.getD i 0) j) ∧ entry (sysC c n sets) i n = c.getD (sets.getD i 0) 0 := by
  obtain ⟨s, hs⟩ : ∃ s, sets[i]? = some s := ⟨_, List.getElem?_eq_getElem (by omega)⟩
  have e1 : sets.getD i 0 = s := by rw [List.getD_eq_getElem?_getD, hs]; rfl
  have e2 : (sysC c n sets).getD i [] = rowL n s (c.getD s 0) := by unfold sysC; rw [List.getD_eq_getElem?_getD, List.getElem?_map, hs]; rfl
  unfold entry
  rw [e2, e1]
  exact ⟨fun j hj => rowL_get n s _ j hj, rowL_last n s _⟩
/-- The last of rising sets is the set of all. -/
theorem last_all {n : Nat} {sets : List Nat} (hn : 1 ≤ n) (hl : sets.length = n) (hp : sets.Pairwise (· < ·)) (hm : 2 ^ n - 1 ∈ sets) (hb : ∀ x ∈ sets, x < 2 ^ n) : sets.getD (n - 1) 0 = 2 ^ n - 1 := by
  obtain ⟨j, hj, e⟩ := List.getElem_of_mem hm
  rw [List.getD_eq_getElem?_getD, List.getElem?_eq_getElem (by omega), Option.getD_some]
  by_cases h : j = n - 1
  · subst h; exact e
  · have h1 := List.pairwise_iff_getElem.1 hp j (n - 1) hj (by omega) (by omega)
    have h2 := hb _ (List.getElem_mem (show n - 1 < sets.length by omega))
    omega
theorem cand_some {c : List Int} {n : Nat} {x : Nat → Rat} {sets : List Nat} (hv : valC c = true) (hn : plr c = n) (hx : InC c n x) (hl : sets.length = n) (hp : sets.Pairwise (· < ·)) (hm : 2 ^ n - 1 ∈ sets) (hb : ∀ s ∈ sets, s < 2 ^ n) (ht : ∀ s ∈ sets, dotS n x s = cq c s) (hs : Spn n sets) : ∃ qs, cand c n sets = some qs := by
  have hpw := valC_pow hv
  rw [hn] at hpw
  have hcb := (valC_iff.1 hv).2.2
  have hf : Bits (entry (sysC c n sets)) n := fun i j hi hj => by
    rw [(entry_row hl hi).1 j hj]; exact bitI_cases _ _
  have hrow : ∀ (y : Nat → Rat) i, i < n → sumQ (fun j => (entry (sysC c n sets) i j : Rat) * y j) (n + 1) = dotS n y (sets.getD i 0) + cq c (sets.getD i 0) * y n := by
    intro y i hi
    rw [sumQ, (entry_row hl hi).2]
    congr 1
    exact sumQ_congr fun j hj => by rw [(entry_row hl hi).1 j hj]; rfl
  have hget : ∀ s ∈ sets, ∃ i, i < n ∧ sets.getD i 0 = s := by
    intro s hs
    obtain ⟨i, hi, e⟩ := List.getElem_of_mem hs
    exact ⟨i, by omega, by rw [List.getD_eq_getElem?_getD, List.getElem?_eq_getElem hi]; exact e⟩
  unfold cand
  rw [if_pos (last_all hpw.2.1 hl hp hm hb)]
  cases e : slvTo (entry (sysC c n sets)) n n with
  | none =>
    obtain ⟨y, h1, h2, j, hj, h3⟩ := slv_none hf hpw.2.2 e
    refine absurd (hs y (fun s hs => ?_) j hj) h3
    obtain ⟨i, hi, rfl⟩ := hget s hs
    have := h1 i hi
    rw [hrow y i hi, h2] at this
    grind
  | some r =>
    obtain ⟨h, l⟩ := r
    obtain ⟨h1, h2, h3⟩ := slv_some hf hpw.2.2 e
    have hy := (h3 (fun j => if j < n then x j else -1)).1 (fun i hi => by
      rw [hrow _ i hi]
      have e1 : dotS n (fun j => if j < n then x j else -1) (sets.getD i 0) = dotS n x (sets.getD i 0) := sumQ_congr fun j hj => by dsimp only; rw [if_pos hj]
      have hmem : sets.getD i 0 ∈ sets := by rw [List.getD_eq_getElem?_getD, List.getElem?_eq_getElem (by omega)]; exact List.getElem_mem _
      rw [e1, ht _ hmem]
      rw [if_neg (by omega)]
      grind)
    have hxi : ∀ i, i < n → solQ (h i n) l = x i := fun i hi => by
      have := hy i hi
      rw [if_pos hi, if_neg (by omega)] at this
      exact solQ_of h1 this
    have hsl : (solL h l n).length = n := by simp [solL]
    have hsm : ∀ q ∈ solL h l n, smallQ q := by
      intro q hq
      simp only [solL, List.mem_map, List.mem_range] at hq
      obtain ⟨i, hi, rfl⟩ := hq
      have hd := solQ_den (x := h i n) h1 h2
      have hb := inC_bd hcb hpw.2.2 hx hi
      rw [← hxi i hi] at hb
      have := num_bd hd (by decide) hb.1 hb.2
      unfold smallQ
      omega
    have hin : ccB c ((solL h l n).map pr) = true := by
      rw [ccB_in hv hn hsl hsm]
      have e1 : ∀ s, dotS n (fun i => (solL h l n).getD i 0) s = dotS n x s := fun s => sumQ_congr fun i hi => by
        dsimp only
        rw [← hxi i hi, List.getD_eq_getElem?_getD]
        simp [solL, hi]
      unfold InC
      simp only [e1]
      exact hx
    simp only [hin, if_true]
    exact ⟨_, rfl⟩
theorem core_some {c : List Int} {x : Nat → Rat} (hv : valC c = true) (hx : InC c (plr c) x) : ∃ qs, coreF c = some qs := by
  obtain ⟨n, hn⟩ : ∃ n, plr c = n := ⟨_, rfl⟩
  rw [hn] at hx
  have hpw := valC_pow hv
  rw [hn] at hpw
  obtain ⟨x', hx', hs⟩ := corner hpw.2.1 _ x (Nat.le_refl _) hx
  have hN : 2 ≤ 2 ^ n := Nat.pow_le_pow_right (show 0 < 2 by decide) hpw.2.1
  have hm : 2 ^ n - 1 ∈ tights c n x' := List.mem_filter.2 ⟨mem_sets.2 (by omega), decide_eq_true hx'.1⟩
  have hp : (tights c n x').Pairwise (· < ·) := (List.pairwise_lt_range').sublist List.filter_sublist
  have hle := spn_length hs
  obtain ⟨Q, h1, h2, h3, h4, h5⟩ := spn_shrink hpw.2.1 (fun i hi => bq_all hi) ((tights c n x').length - n) (tights c n x') (by omega) hp hm hs
  have hQ : ∀ s ∈ Q, (1 ≤ s ∧ s < 2 ^ n) ∧ dotS n x' s = cq c s := fun s hs => by
    have := List.mem_filter.1 (h5 s hs)
    exact ⟨mem_sets.1 this.1, of_decide_eq_true this.2⟩
  obtain ⟨qs, hqs⟩ := cand_some hv hn hx' h1 h2 h3 (fun s hs => (hQ s hs).1.2) (fun s hs => (hQ s hs).2) h4
  unfold coreF
  rw [hn, hpw.1]
  exact findSome_some (cmb_of h1 h2 fun s hs => (hQ s hs).1) hqs
theorem core_cc {c : List Int} {qs : List Rat} (h : coreF c = some qs) : ccB c (qs.map pr) = true ∧ qs.length = plr c := by
  unfold coreF at h
  obtain ⟨s, _, hs⟩ := List.exists_of_findSome?_eq_some h
  unfold cand at hs
  split at hs
  · split at hs
    · cases hs
    · split at hs
      · rename_i hcc
        injection hs with hs
        rw [← hs]
        exact ⟨hcc, by simp [solL]⟩
      · cases hs
  · cases hs

/- Payments by the cheapest roads lie in the core: plain Lean. -/

section
variable {d : Nat → Nat → Int} {ins : List Nat} {l : List Int}
/-- The tree that Spanning returns. -/
def spanF (rs : List Rd) (l : List Int) : List Int := sortTo (krC rs p8 l) (krC rs p8 l).length
theorem spanF_perm (rs : List Rd) (l : List Int) : (spanF rs l).Perm (krC rs p8 l) := sortTo_perm _ _ (Nat.le_refl _)
theorem Ord.nodup {rs : List Rd} (h : Ord rs l) : l.Nodup := by
  refine (h.perm.nodup_iff).2 ?_
  unfold idxs
  exact List.pairwise_map.2 ((List.nodup_range (n := rs.length)).imp fun h e => h (Int.ofNat_inj.1 e))
theorem span_tree (hk : 1 ≤ ins.length ∧ ins.length ≤ 5) (ho : Ord (bRoads d ins) l) : treeF (bRoads d ins) (2 ^ ins.length - 1) (spanF (bRoads d ins) l) = (sumC (bRoads d ins) (krC (bRoads d ins) p8 l), true) := by
  obtain ⟨C, hC⟩ : ∃ C, C = krC (bRoads d ins) p8 l := ⟨_, rfl⟩
  obtain ⟨T, hT⟩ : ∃ T, T = spanF (bRoads d ins) l := ⟨_, rfl⟩
  have hp : T.Perm C := by rw [hT, hC]; exact spanF_perm _ _
  rw [← hT, ← hC]
  have hsub : C.Sublist l := by rw [hC]; exact kr_sub _ _
  have hagain := kr_again (rs := bRoads d ins) l p8
  rw [← hC] at hagain
  have hCnd : C.Nodup := ho.nodup.sublist hsub
  have hTnd : T.Nodup := hp.nodup_iff.2 hCnd
  have hin : ∀ x ∈ T, 0 ≤ x ∧ x < ((bRoads d ins).length : Int) := fun x hx => by
    obtain ⟨m, hm, rfl⟩ := ho.mem.1 (hsub.subset (hp.mem_iff.1 hx))
    omega
  have hsrt : ∀ a b, a < b → b < T.length → T.getD a 0 < T.getD b 0 := fun a b hab hb => by
    have h1 : T.getD a 0 ≤ T.getD b 0 := by
      rw [hT] at hb ⊢
      unfold spanF at hb ⊢
      rw [sortTo_length] at hb
      exact sortTo_sorted _ _ (Nat.le_refl _) a b hab hb
    have h2 : T.getD a 0 ≠ T.getD b 0 := fun e => by
      rw [List.getD_eq_getElem?_getD, List.getD_eq_getElem?_getD, List.getElem?_eq_getElem (by omega), List.getElem?_eq_getElem hb] at e
      have := (List.getElem_inj hTnd).1 e
      omega
    omega
  have gC := bGE (d := d) hk.2 C
  have gT := bGE (d := d) hk.2 T
  have gl := bGE (d := d) hk.2 l
  have hpr : (rdL (bRoads d ins) T).Perm (rdL (bRoads d ins) C) := hp.map _
  have hfp := fold_perm gC hpr
  have hTT : krC (bRoads d ins) p8 T = T := by
    have e1 := kr_count T pv_p8 gT
    have e2 := kr_count C pv_p8 gC
    rw [hagain.1] at e2
    have e3 := al_congr hfp
    have e4 := hp.length_eq
    exact (kr_sub T p8).eq_of_length (by omega)
  obtain ⟨t, h1, h2, h3⟩ := tr_all (K := ins.length) (s := 2 ^ ins.length - 1) (fun r hr => by
      obtain ⟨i, j, h1, h2, rfl⟩ := bTo_mem.1 hr
      simp only [Int.toNat_natCast]; omega) (by rw [full_bits]; exact decide_eq_true (by omega)) (fun i hi => by rw [full_bits] at hi; exact of_decide_eq_true hi) hTT hin hsrt T.length (Nat.le_refl _)
  rw [List.take_length] at h1
  have hPT := PV.fold _ pv_p8 gT
  have hconn : connB (foldP p8 (rdL (bRoads d ins) T)) t = true := conn_zero (K := ins.length) (by omega) h2 h3 fun i hi => by
    refine val_zero hPT (by omega) ?_
    rw [hfp i (by omega), hagain.2]
    exact all_zero gl (fun r hr => ho.rd.2 hr) hi
  unfold treeF
  rw [h1]
  simp only [hconn, if_true]
  rw [sumC_perm hp]
end
/-- What the group of these stops costs. -/
def costB (ord : List Rd → List Int) (d : Nat → Nat → Int) (ins : List Nat) : Int := sumC (bRoads d ins) (krC (bRoads d ins) p8 (ord (bRoads d ins)))
/-- What the label j of the whole costs. -/
def pyB (ord : List Rd → List Int) (d : Nat → Nat → Int) (N j : Nat) : Int := dt (bRoads d (List.range N)) p8 (ord (bRoads d (List.range N))) j
section
variable {ord : List Rd → List Int} (ho : ∀ rs : List Rd, Ord rs (ord rs)) {d : Nat → Nat → Int} {ins : List Nat} {N : Nat}
theorem range_getD {N i : Nat} (h : i < N) : (List.range N).getD i 0 = i := by
  rw [List.getD_eq_getElem?_getD, List.getElem?_range h]; rfl
include ho
/-- A stop pays no more than what it costs in a group. -/
theorem bird_le (hk : 1 ≤ ins.length ∧ ins.length ≤ 5) (hN : N ≤ 5) (hd : DOk d ins) (hinc : ∀ a b, a < b → b < ins.length → ins.getD a 0 < ins.getD b 0) (hlt : ∀ a, a < ins.length → ins.getD a 0 < N) {j : Nat} (hj : 1 ≤ j ∧ j < ins.length) :
    pyB ord d N (ins.getD j 0) ≤ dt (bRoads d ins) p8 (ord (bRoads d ins)) j := by
  have hS := ho (bRoads d ins)
  have hF := ho (bRoads d (List.range N))
  unfold pyB
  obtain ⟨lS, elS⟩ : ∃ lS, lS = ord (bRoads d ins) := ⟨_, rfl⟩
  obtain ⟨lN, elN⟩ : ∃ lN, lN = ord (bRoads d (List.range N)) := ⟨_, rfl⟩
  rw [← elS] at hS ⊢
  rw [← elN] at hF ⊢
  have gS := bGE (d := d) hk.2 lS
  have gN : GE (rdL (bRoads d (List.range N)) lN) := bGE (by rw [List.length_range]; exact hN) lN
  have hz := all_zero gS (fun r hr => hS.rd.2 hr) hj.2
  obtain ⟨l1, l2, e1, e2, e3, i0, hi0, e4⟩ := dt_ge lS pv_p8 gS (j := j) (by omega) (lb_p8 (by omega)) (by omega) hS.srt
  obtain ⟨τ, hτ⟩ : ∃ τ, τ = dt (bRoads d ins) p8 lS j := ⟨_, rfl⟩
  rw [← hτ] at e2 e4 ⊢
  have hτ0 : 0 ≤ τ := by rw [e4]; have := hS.cost_ok (bOk hk hd) hi0; omega
  obtain ⟨m1, m2, f1, f2, f3⟩ := split_at (τ := τ) lN hF.srt
  rw [f1] at gN ⊢
  have g1 : GE (rdL (bRoads d (List.range N)) m1) := fun r hr => gN r (by unfold rdL at *; rw [List.map_append]; exact List.mem_append_left _ hr)
  have gS1 : GE (rdL (bRoads d ins) l1) := bGE hk.2 l1
  have hPN := PV.fold _ pv_p8 g1
  have hPS := PV.fold _ pv_p8 gS1
  have hlj := hlt j hj.2
  refine dt_le hτ0 m2 m1 pv_p8 gN (by omega) f2 ?_
  obtain ⟨φ, hφ⟩ : ∃ φ : Nat → Nat, φ = fun a => lb (foldP p8 (rdL (bRoads d (List.range N)) m1)) (ins.getD a 0) := ⟨_, rfl⟩
  have hinv := fold_inv (φ := φ) (rdL (bRoads d ins) l1) pv_p8 gS1 (fun r hr => by
    obtain ⟨i, hi, rfl⟩ := List.mem_map.1 hr
    have hil : i ∈ lS := by rw [e1]; exact List.mem_append_left _ hi
    have hri : rdN (bRoads d ins) i ∈ bRoads d ins := hS.rd.1 (List.mem_map.2 ⟨i, hil, rfl⟩)
    obtain ⟨a, b, hba, hak, er⟩ := bTo_mem.1 hri
    have hc := e2 i hi
    unfold cost at hc
    rw [er] at hc ⊢
    simp only [Int.toNat_natCast] at hc ⊢
    rw [hφ]
    have hA := hlt a hak
    have hB := hlt b (by omega)
    have hAB := hinc b a hba hak
    have hfull : (((ins.getD a 0 : Nat) : Int), ((ins.getD b 0 : Nat) : Int), d (ins.getD a 0) (ins.getD b 0)) ∈ bRoads d (List.range N) := bTo_mem.2 ⟨ins.getD a 0, ins.getD b 0, hAB, by rw [List.length_range]; exact hA, by rw [range_getD hA, range_getD hB]⟩
    have hfl := hF.rd.2 hfull
    rw [f1] at hfl
    obtain ⟨x, hx, ex⟩ := List.mem_map.1 hfl
    have hx1 : x ∈ m1 := by
      rcases List.mem_append.1 hx with h | h
      · exact h
      · have := f3 x h
        unfold cost at this
        rw [ex] at this
        simp only at this
        omega
    have hend := fold_ends _ pv_p8 g1 (rdN (bRoads d (List.range N)) x) (List.mem_map.2 ⟨x, hx1, rfl⟩)
    rw [ex] at hend
    simpa only [Int.toNat_natCast] using hend) (fun i hi => by rw [lb_p8 hi]) j (by omega)
  rw [hφ] at hinv
  simp only at hinv
  have hk1 := hPS.le j (by omega)
  have hk2 : lb (foldP p8 (rdL (bRoads d ins) l1)) j < j := by omega
  have h5 := hinc _ j hk2 hj.2
  have h6 := hPN.le (ins.getD (lb (foldP p8 (rdL (bRoads d ins) l1)) j) 0) (by omega)
  omega
theorem pay_zero (hN : N ≤ 5) {j : Nat} (hj : j < 8) (h : j = 0 ∨ N ≤ j) : pyB ord d N j = 0 := by
  have hF := ho (bRoads d (List.range N))
  have gN : ∀ l, GE (rdL (bRoads d (List.range N)) l) := fun l => bGE (by rw [List.length_range]; exact hN) l
  unfold pyB
  refine dt_alive _ pv_p8 (gN _) hj ?_
  rcases h with rfl | h
  · have := (PV.fold _ pv_p8 (gN (ord (bRoads d (List.range N))))).le 0 (by omega)
    omega
  · have h1 := fold_inv (φ := fun i => if i = j then 1 else 0) (rdL (bRoads d (List.range N)) (ord (bRoads d (List.range N)))) pv_p8 (gN _) (fun r hr => by
      obtain ⟨a, b, h1, h2, rfl⟩ := bTo_mem.1 (hF.rd.1 hr)
      rw [List.length_range] at h2
      simp only [Int.toNat_natCast]
      rw [if_neg (by omega), if_neg (by omega)]) (fun i hi => by rw [lb_p8 hi]) j hj
    simp only [if_true] at h1
    split at h1
    · assumption
    · omega
omit ho in
theorem cost_sum (hk : ins.length ≤ 5) : costB ord d ins = s8 (dt (bRoads d ins) p8 (ord (bRoads d ins))) := by
  unfold costB
  exact kr_sum _ pv_p8 (bGE hk _)
theorem cost_bd (hk : 1 ≤ ins.length ∧ ins.length ≤ 5) (hd : DOk d ins) : 0 ≤ costB ord d ins ∧ costB ord d ins ≤ 400 := by
  have hS := ho (bRoads d ins)
  have hc := kr_count (ord (bRoads d ins)) pv_p8 (bGE (d := d) hk.2 _)
  rw [al_p8] at hc
  have : ∀ (C : List Int), (∀ i ∈ C, 1 ≤ cost (bRoads d ins) i ∧ cost (bRoads d ins) i ≤ 50) → 0 ≤ sumC (bRoads d ins) C ∧ sumC (bRoads d ins) C ≤ 50 * C.length := by
    intro C
    induction C with
    | nil => intro _; simp [sumC]
    | cons x C ih =>
      intro h
      have h1 := h x (List.mem_cons_self ..)
      have h2 := ih fun i hi => h i (List.mem_cons_of_mem _ hi)
      simp only [sumC, List.length_cons]
      omega
  have h := this (krC (bRoads d ins) p8 (ord (bRoads d ins))) fun i hi => hS.cost_ok (bOk hk hd) ((kr_sub _ _).subset hi)
  unfold costB
  omega
end

/- The costs of all groups have payments in the core: plain Lean. -/

/-- The stops of a group: the first one, and its members among the first i. -/
def insTo (set : Nat) : Nat → List Nat
  | 0 => [0]
  | i + 1 => if set.testBit i then insTo set i ++ [i + 1] else insTo set i
theorem insTo_facts (set : Nat) : ∀ i, (1 ≤ (insTo set i).length ∧ (insTo set i).length ≤ i + 1) ∧ (insTo set i).getD 0 0 = 0 ∧ (∀ a, a < (insTo set i).length → (insTo set i).getD a 0 ≤ i) ∧ ∀ a b, a < b → b < (insTo set i).length → (insTo set i).getD a 0 < (insTo set i).getD b 0
  | 0 => ⟨by simp [insTo], rfl, fun a ha => by
      have : a = 0 := by simp [insTo] at ha; omega
      subst this; exact Nat.le_refl _, fun a b hab hb => by simp [insTo] at hb; omega⟩
  | i + 1 => by
    obtain ⟨⟨h1, h1'⟩, h2, h3, h4⟩ := insTo_facts set i
    rw [insTo]
    by_cases e : set.testBit i = true
    · rw [if_pos e]
      have hl : (insTo set i ++ [i + 1]).length = (insTo set i).length + 1 := by simp
      have ha : ∀ a, a < (insTo set i).length → (insTo set i ++ [i + 1]).getD a 0 = (insTo set i).getD a 0 := fun a ha => by
        rw [List.getD_eq_getElem?_getD, List.getD_eq_getElem?_getD, List.getElem?_append_left ha]
      have hz : (insTo set i ++ [i + 1]).getD (insTo set i).length 0 = i + 1 := by
        rw [List.getD_eq_getElem?_getD, List.getElem?_append_right (Nat.le_refl _), Nat.sub_self]; rfl
      refine ⟨by omega, by rw [ha 0 (by omega)]; exact h2, fun a hh => ?_, fun a b hab hb => ?_⟩
      · by_cases e2 : a < (insTo set i).length
        · rw [ha a e2]; have := h3 a e2; omega
        · have : a = (insTo set i).length := by omega
          subst this; rw [hz]; omega
      · by_cases e2 : b < (insTo set i).length
        · rw [ha a (by omega), ha b e2]; exact h4 a b hab e2
        · have : b = (insTo set i).length := by omega
          subst this
          rw [hz, ha a (by omega)]
          have := h3 a (by omega)
          omega
    · rw [if_neg e]
      exact ⟨by omega, h2, fun a ha => by have := h3 a ha; omega, h4⟩
theorem insTo_zero : ∀ i, insTo 0 i = [0]
  | 0 => rfl
  | i + 1 => by rw [insTo, if_neg (by simp)]; exact insTo_zero i
theorem insTo_full {set : Nat} : ∀ i, (∀ j, j < i → set.testBit j = true) → insTo set i = List.range (i + 1)
  | 0, _ => rfl
  | i + 1, h => by
    rw [insTo, if_pos (h i (by omega)), insTo_full i fun j hj => h j (by omega), List.range_succ (n := i + 1)]
def jsum (g : Nat → Int) : Nat → Int
  | 0 => 0
  | n + 1 => jsum g n + g (n + 1)
theorem jsum_le {g h : Nat → Int} : ∀ {n : Nat}, (∀ j, 1 ≤ j → j ≤ n → g j ≤ h j) → jsum g n ≤ jsum h n
  | 0, _ => Int.le_refl _
  | n + 1, hh => by
    have h1 := jsum_le (n := n) fun j h1 h2 => hh j h1 (by omega)
    have h2 := hh (n + 1) (by omega) (Nat.le_refl _)
    rw [jsum, jsum]; omega
theorem jsum_congr {g h : Nat → Int} : ∀ {n : Nat}, (∀ j, 1 ≤ j → j ≤ n → g j = h j) → jsum g n = jsum h n
  | 0, _ => rfl
  | n + 1, hh => by rw [jsum, jsum, jsum_congr (n := n) fun j h1 h2 => hh j h1 (by omega), hh (n + 1) (by omega) (Nat.le_refl _)]
theorem jsum_s8 {h : Nat → Int} (hh : ∀ j, 0 ≤ h j) {n : Nat} (hn : n ≤ 4) : jsum h n ≤ s8 h := by
  have h0 := hh 0; have h1 := hh 1; have h2 := hh 2; have h3 := hh 3; have h4 := hh 4; have h5 := hh 5; have h6 := hh 6; have h7 := hh 7
  have : n = 0 ∨ n = 1 ∨ n = 2 ∨ n = 3 ∨ n = 4 := by omega
  unfold s8
  rcases this with rfl | rfl | rfl | rfl | rfl <;> simp only [jsum, Nat.reduceAdd] <;> omega
theorem s8_jsum {h : Nat → Int} {n : Nat} (hn : n ≤ 4) (hz : ∀ j, j < 8 → j = 0 ∨ n + 1 ≤ j → h j = 0) : s8 h = jsum h n := by
  have z0 := hz 0 (by omega) (by omega)
  have z5 := hz 5 (by omega) (by omega)
  have z6 := hz 6 (by omega) (by omega)
  have z7 := hz 7 (by omega) (by omega)
  have z1 : n < 1 → h 1 = 0 := fun hh => hz 1 (by omega) (by omega)
  have z2 : n < 2 → h 2 = 0 := fun hh => hz 2 (by omega) (by omega)
  have z3 : n < 3 → h 3 = 0 := fun hh => hz 3 (by omega) (by omega)
  have z4 : n < 4 → h 4 = 0 := fun hh => hz 4 (by omega) (by omega)
  have : n = 0 ∨ n = 1 ∨ n = 2 ∨ n = 3 ∨ n = 4 := by omega
  unfold s8
  rcases this with rfl | rfl | rfl | rfl | rfl <;> simp only [jsum, Nat.reduceAdd] <;> omega
def bsum (f : Nat → Int) (set : Nat) : Nat → Int
  | 0 => 0
  | i + 1 => bsum f set i + if set.testBit i then f (i + 1) else 0
theorem bsum_jsum (f : Nat → Int) (set : Nat) : ∀ i, bsum f set i = jsum (fun j => f ((insTo set i).getD j 0)) ((insTo set i).length - 1)
  | 0 => rfl
  | i + 1 => by
    obtain ⟨⟨h1, _⟩, _⟩ := insTo_facts set i
    rw [bsum, bsum_jsum f set i, insTo]
    by_cases e : set.testBit i = true
    · rw [if_pos e, if_pos e]
      have hl : (insTo set i ++ [i + 1]).length - 1 = ((insTo set i).length - 1) + 1 := by simp; omega
      rw [hl, jsum]
      have hz : (insTo set i ++ [i + 1]).getD ((insTo set i).length - 1 + 1) 0 = i + 1 := by
        have e2 : (insTo set i).length - 1 + 1 = (insTo set i).length := by omega
        rw [e2, List.getD_eq_getElem?_getD, List.getElem?_append_right (Nat.le_refl _), Nat.sub_self]; rfl
      simp only [hz]
      congr 1
      refine jsum_congr fun j _ hj => ?_
      rw [List.getD_eq_getElem?_getD, List.getD_eq_getElem?_getD, List.getElem?_append_left (by omega)]
    · rw [if_neg e, if_neg e, Int.add_zero]
theorem dot_bsum (f : Nat → Int) (set : Nat) : ∀ n, dotS n (fun i => ((f (i + 1) : Int) : Rat)) set = ((bsum f set n : Int) : Rat)
  | 0 => rfl
  | n + 1 => by
    have ih := dot_bsum f set n
    unfold dotS at ih ⊢
    rw [sumQ, ih, bsum]
    unfold bq bitI
    cases e : set.testBit n
    · simp [Rat.add_zero]
    · simp
/-- The costs of all groups. -/
def birdC (ord : List Rd → List Int) (d : Nat → Nat → Int) (n : Nat) : List Int := (List.range (2 ^ n)).map fun set => costB ord d (insTo set n)
theorem birdC_length (ord : List Rd → List Int) (d : Nat → Nat → Int) (n : Nat) : (birdC ord d n).length = 2 ^ n := by simp [birdC]
theorem birdC_get {ord : List Rd → List Int} {d : Nat → Nat → Int} {n set : Nat} (h : set < 2 ^ n) : (birdC ord d n)[set]? = some (costB ord d (insTo set n)) := by
  unfold birdC
  rw [List.getElem?_map, List.getElem?_range h]; rfl
theorem bird_core {ord : List Rd → List Int} (ho : ∀ rs : List Rd, Ord rs (ord rs)) {d : Nat → Nat → Int} {n : Nat} (hn : 1 ≤ n ∧ n ≤ 4) (hd : ∀ set, set < 2 ^ n → DOk d (insTo set n)) :
    valC (birdC ord d n) = true ∧ plr (birdC ord d n) = n ∧ InC (birdC ord d n) n (fun i => ((pyB ord d (n + 1) (i + 1) : Int) : Rat)) := by
  have hpos : 0 < 2 ^ n := Nat.two_pow_pos n
  have hlen : ∀ set, 1 ≤ (insTo set n).length ∧ (insTo set n).length ≤ 5 := fun set => by have := (insTo_facts set n).1; omega
  have hv : valC (birdC ord d n) = true := by
    refine valC_iff.2 ⟨?_, ?_, fun x hx => ?_⟩
    · rw [birdC_length]
      have : n = 1 ∨ n = 2 ∨ n = 3 ∨ n = 4 := by omega
      rcases this with rfl | rfl | rfl | rfl <;> decide
    · rw [List.getD_eq_getElem?_getD, birdC_get hpos, insTo_zero]
      show costB ord d [0] = 0
      have h1 : ord (bRoads d [0]) = [] := by
        have := (ho (bRoads d [0])).perm
        exact List.Perm.eq_nil this
      unfold costB
      rw [h1]; rfl
    · obtain ⟨set, hset, rfl⟩ := List.mem_map.1 hx
      have := cost_bd ho (hlen set) (hd set (List.mem_range.1 hset))
      omega
  have hpl : plr (birdC ord d n) = n := by
    have h1 := (valC_pow hv).1
    rw [birdC_length] at h1
    exact ((Nat.pow_right_inj (by omega)).1 h1).symm
  have hcq : ∀ set, set < 2 ^ n → cq (birdC ord d n) set = ((costB ord d (insTo set n) : Int) : Rat) := fun set h => by
    unfold cq
    rw [List.getD_eq_getElem?_getD, birdC_get h]; rfl
  refine ⟨hv, hpl, ?_, fun set hset => ?_⟩
  · rw [dot_bsum (pyB ord d (n + 1)), hcq _ (by omega), Rat.intCast_inj, bsum_jsum]
    have hf : insTo (2 ^ n - 1) n = List.range (n + 1) := insTo_full n fun j hj => by rw [full_bits]; exact decide_eq_true hj
    rw [hf, List.length_range, cost_sum (by rw [List.length_range]; omega)]
    have e1 : s8 (dt (bRoads d (List.range (n + 1))) p8 (ord (bRoads d (List.range (n + 1))))) = s8 (pyB ord d (n + 1)) := rfl
    rw [e1, s8_jsum hn.2 fun j hj hh => pay_zero ho (by omega) hj hh]
    exact jsum_congr fun j _ hj => by rw [range_getD (by omega)]
  · rw [dot_bsum (pyB ord d (n + 1)), hcq _ hset, Rat.intCast_le_intCast, bsum_jsum]
    obtain ⟨⟨a1, a2⟩, a3, a4, a5⟩ := insTo_facts set n
    rw [cost_sum (hlen set).2]
    refine Int.le_trans (jsum_le (h := dt (bRoads d (insTo set n)) p8 (ord (bRoads d (insTo set n)))) fun j h1 h2 => ?_) (jsum_s8 (fun j => dt_nonneg _ _ _ fun i hi => ?_) (by omega))
    · exact bird_le ho (hlen set) (by omega) (hd set hset) a5 (fun a ha => by have := a4 a ha; omega) ⟨h1, by omega⟩
    · have := (ho (bRoads d (insTo set n))).cost_ok (bOk (hlen set) (hd set hset)) hi
      omega

/- Contracts: SortStableFunc with Spanning's function: the cheapest roads first. -/

/-- The entry at j sinks below the dearer ones. -/
def sinkK (key : Int → Int) : Nat → List Int → List Int
  | 0, l => l
  | j + 1, l => if key (l.getD (j + 1) 0) < key (l.getD j 0) then sinkK key j ((l.set (j + 1) (l.getD j 0)).set j (l.getD (j + 1) 0)) else l
/-- The first i are sorted. -/
def sortK (key : Int → Int) (l : List Int) : Nat → List Int
  | 0 => l
  | i + 1 => sinkK key i (sortK key l i)
section
variable (key : Int → Int)
theorem sinkK_length (j : Nat) : ∀ l : List Int, (sinkK key j l).length = l.length := by
  induction j with
  | zero => intro l; rfl
  | succ j ih => intro l; simp only [sinkK]; split; rw [ih]; simp; rfl
theorem sortK_length (l : List Int) (i : Nat) : (sortK key l i).length = l.length := by
  induction i with
  | zero => rfl
  | succ i ih => simp only [sortK]; rw [sinkK_length, ih]
theorem sinkK_perm (j : Nat) : ∀ l : List Int, j < l.length → (sinkK key j l).Perm l := by
  induction j with
  | zero => intro l _; exact List.Perm.refl _
  | succ j ih =>
    intro l h
    simp only [sinkK]
    split
    · exact (ih _ (by simp; omega)).trans (swap_perm j l h)
    · exact List.Perm.refl _
theorem sortK_perm (l : List Int) (i : Nat) (hi : i ≤ l.length) : (sortK key l i).Perm l := by
  induction i with
  | zero => exact List.Perm.refl _
  | succ i ih =>
    simp only [sortK]
    exact (sinkK_perm key i _ (by rw [sortK_length]; omega)).trans (ih (by omega))
theorem sinkK_sorted (i j : Nat) : ∀ l : List Int, j ≤ i → i < l.length → (∀ a b, a < b → b ≤ i → b ≠ j → key (l.getD a 0) ≤ key (l.getD b 0)) → ∀ a b, a < b → b ≤ i → key ((sinkK key j l).getD a 0) ≤ key ((sinkK key j l).getD b 0) := by
  induction j with
  | zero => intro l _ _ h a b hab hb; exact h a b hab hb (by omega)
  | succ j ih =>
    intro l hj hi h
    simp only [sinkK]
    by_cases hlt : key (l.getD (j + 1) 0) < key (l.getD j 0)
    · rw [if_pos hlt]
      have hg : ∀ k, ((l.set (j + 1) (l.getD j 0)).set j (l.getD (j + 1) 0)).getD k 0 = if k = j then l.getD (j + 1) 0 else if k = j + 1 then l.getD j 0 else l.getD k 0 := by
        intro k
        rw [List.getD_eq_getElem?_getD, List.getElem?_set]
        by_cases e : j = k
        · rw [if_pos e, if_pos e.symm, if_pos (by simp; omega)]; rfl
        · rw [if_neg e, if_neg (fun h => e h.symm), List.getElem?_set]
          by_cases e2 : j + 1 = k
          · rw [if_pos e2, if_pos e2.symm, if_pos (by omega)]; rfl
          · rw [if_neg e2, if_neg (fun h => e2 h.symm), ← List.getD_eq_getElem?_getD]
      refine ih _ (by omega) (by simp; omega) fun a b hab hb hbj => ?_
      rw [hg, hg, if_neg hbj]
      by_cases e1 : b = j + 1
      · rw [if_pos e1]
        by_cases e2 : a = j
        · rw [if_pos e2]; omega
        · rw [if_neg e2, if_neg (by omega)]
          exact h a j (by omega) (by omega) (by omega)
      · rw [if_neg e1]
        by_cases e2 : a = j
        · rw [if_pos e2]; exact h (j + 1) b (by omega) hb e1
        · rw [if_neg e2]
          by_cases e3 : a = j + 1
          · rw [if_pos e3]; exact h j b (by omega) hb e1
          · rw [if_neg e3]; exact h a b hab hb e1
    · rw [if_neg hlt]
      intro a b hab hb
      by_cases e : b = j + 1
      · subst e
        by_cases e2 : a = j
        · subst e2; omega
        · have := h a j (by omega) (by omega) (by omega)
          omega
      · exact h a b hab hb e
theorem sortK_sorted (l : List Int) (i : Nat) (hi : i ≤ l.length) : ∀ a b, a < b → b < i → key ((sortK key l i).getD a 0) ≤ key ((sortK key l i).getD b 0) := by
  induction i with
  | zero => intro a b _ hb; omega
  | succ i ih =>
    intro a b hab hb
    simp only [sortK]
    exact sinkK_sorted key i i (sortK key l i) (Nat.le_refl _) (by rw [sortK_length]; omega) (fun a b hab hb hne => ih (by omega) a b hab (by omega)) a b hab (by omega)
end
/-- All roads, the cheapest first. -/
def ordF (rs : List Rd) : List Int := sortK (cost rs) (idxs rs.length) rs.length
theorem ordF_length (rs : List Rd) : (ordF rs).length = rs.length := by unfold ordF; rw [sortK_length, idxs_length]
theorem ordF_ord (rs : List Rd) : Ord rs (ordF rs) := by
  refine ⟨sortK_perm _ _ _ (by rw [idxs_length]; exact Nat.le_refl _), List.pairwise_iff_getElem.2 fun a b ha hb hab => ?_⟩
  rw [ordF_length] at hb
  have h := sortK_sorted (cost rs) (idxs rs.length) rs.length (by rw [idxs_length]; exact Nat.le_refl _) a b hab hb
  have e : ∀ i (hi : i < (ordF rs).length), (sortK (cost rs) (idxs rs.length) rs.length).getD i 0 = (ordF rs)[i] := fun i hi => by
    show (ordF rs).getD i 0 = _
    rw [List.getD_eq_getElem?_getD, List.getElem?_eq_getElem hi]; rfl
  rw [e a ha, e b (by rw [ordF_length]; exact hb)] at h
  exact h
def okIx (n : Nat) (l : List Int) : Prop := ∀ v ∈ l, ∃ m : Nat, m < n ∧ v = (m : Int)
theorem okIx_idxs (n : Nat) : okIx n (idxs n) := fun v hv => by
  obtain ⟨m, h1, rfl⟩ := List.mem_map.1 hv
  exact ⟨m, List.mem_range.1 h1, rfl⟩
theorem okIx.perm {n : Nat} {l l' : List Int} (h : okIx n l) (hp : l'.Perm l) : okIx n l' := fun v hv => h v (hp.mem_iff.1 hv)
theorem w64c {x y : Int} (hx : 1 ≤ x ∧ x ≤ 50) (hy : 1 ≤ y ∧ y ≤ 50) : wrap64 (x - y) = x - y := by unfold wrap64; omega
set_option maxHeartbeats 800000 in
theorem rspan1_any (a b gm n c : Nat) (N : Int) (R : Option Addr) (rs : List Rd) (w : World) (hl : rs.length = n) (hv : mapOk N rs = true) (hm : Blk w gm 26 #[.int .i64 N, .slice R n c]) (hR : Rds w R rs) (ha : a < n) (hb : b < n) :
    Calls Tryd.prog 32 #[.int .i64 a, .int .i64 b, .pointer (some ⟨gm, 0, none⟩)] w fun e w' => e = .returned (.int .i64 (cost rs a - cost rs b)) ∧ ∃ m, w' = w.drewN m := by
  obtain ⟨ad, rfl, _, hc⟩ := hR.some_ (by omega)
  obtain ⟨x, hx⟩ : ∃ x, rs[a]? = some x := ⟨_, List.getElem?_eq_getElem (by omega)⟩
  obtain ⟨y, hy⟩ : ∃ y, rs[b]? = some y := ⟨_, List.getElem?_eq_getElem (by omega)⟩
  obtain ⟨_, _, x3⟩ := hc a x hx
  obtain ⟨_, _, y3⟩ := hc b y hy
  obtain ⟨_, m2, _, _⟩ := hm.at2
  have b1 := badR_no.1 ((mapOk_iff.1 hv).2.2 x (List.mem_of_getElem? hx))
  have b2 := badR_no.1 ((mapOk_iff.1 hv).2.2 y (List.mem_of_getElem? hy))
  have e1 : cost rs a = x.2.2 := by unfold cost rdN; rw [Int.toNat_natCast, List.getD_eq_getElem?_getD, hx]; rfl
  have e2 : cost rs b = y.2.2 := by unfold cost rdN; rw [Int.toNat_natCast, List.getD_eq_getElem?_getD, hy]; rfl
  obtain ⟨x0, x1, cx⟩ := x
  obtain ⟨y0, y1, cy⟩ := y
  simp only at b1 b2 e1 e2 x3 y3
  have b1' := b1.2.2.2
  have b2' := b2.2.2.2
  have hw := w64c b1' b2'
  have l1 : (a : Int) < (n : Int) := by omega
  have l2 : (0 : Int) ≤ (a : Int) := by omega
  have l3 : (b : Int) < (n : Int) := by omega
  have l4 : (0 : Int) ≤ (b : Int) := by omega
  rw [e1, e2]
  clear b1 b2 e1 e2 hx hy hm hR hv hc hl
  go_enter Tryd.func32, Tryd.ntmps32
  go_upto_region 1 with fail
  go_quiet (fail)
  go_wp2_with fail
  go_ret
  exact ⟨rfl, nq, rfl⟩

/- Contracts: insertionSortCmpFunc, stableCmpFunc and SortStableFunc on the indices of roads. -/

/-- Spanning's function as a value. -/
abbrev cmpV (gm : Nat) : Value := .func (.func 32) #[] #[.pointer (some ⟨gm, 0, none⟩)]
set_option maxRecDepth 100000 in
set_option maxHeartbeats 1600000 in
theorem icmp_any (g cap n gm c : Nat) (N : Int) (R : Option Addr) (rs : List Rd) (l : List Int) (w : World) (hrl : rs.length = n) (hv : mapOk N rs = true) (hl : l.length = n) (hn : 1 ≤ n) (h : PreB w g n cap l) (hix : okIx n l)
    (hfix : ∀ wx, Kept w.heap.size [g] w wx → Blk wx gm 26 #[.int .i64 N, .slice R n c] ∧ Rds wx R rs) :
    Calls Tryd.prog 71 #[.slice (some ⟨g, 0, none⟩) n cap, .int .i64 0, .int .i64 n, cmpV gm] w fun e w' => e = .returned (.tuple #[]) ∧ PreB w' g n cap (sortK (cost rs) l n) ∧ Kept w.heap.size [g] w w' := by
  have hn16 : n ≤ 16 := by have := (mapOk_iff.1 hv).2.1; omega
  obtain ⟨key, hkey⟩ : ∃ key, key = cost rs := ⟨_, rfl⟩
  have H := Lib.hid (And.intro hl (And.intro h (And.intro hix (And.intro hfix (And.intro hrl (And.intro hv hkey))))))
  rw [← hkey]
  clear hl h hix hfix hrl hv hkey
  go_enter Tryd.func71, Tryd.ntmps71
  go_wp2_with fail
  go_loopw [8] (fun iv wr => ∃ i : Nat, 1 ≤ i ∧ i ≤ n ∧ iv = .int .i64 i ∧ PreB wr g n cap (sortK key l i) ∧ okIx n (sortK key l i) ∧ Kept w.heap.size [g] w wr) (fun iv _ => n - (intOf iv).toNat)
  case atStart => exact ⟨1, by omega, by omega, rfl, H.out.2.1, H.out.2.2.1, Kept.refl _ _ _⟩
  case round =>
    obtain ⟨i, hi1, hi, rfl, hp, hok, hk⟩ := hrel
    have HR := Lib.hid (And.intro hp (And.intro hk hok))
    clear hp hk hok
    by_cases hlt : i < n
    · have l1 : (i : Int) < (n : Int) := by omega
      go_wp2_with fail
      go_loopw [9] (fun jv wr => ∃ (j : Nat) (L : List Int), j ≤ i ∧ jv = .int .i64 j ∧ L.length = n ∧ sinkK key j L = sortK key l (i + 1) ∧ PreB wr g n cap L ∧ okIx n L ∧ Kept w.heap.size [g] w wr) (fun jv _ => (intOf jv).toNat)
      case atStart => exact ⟨i, _, Nat.le_refl _, rfl, by rw [sortK_length]; exact H.out.1, rfl, HR.out.1, HR.out.2.2, HR.out.2.1⟩
      case round =>
        obtain ⟨j, L, hj, rfl, hL, hs, hp, hok, hk⟩ := hrel
        have HR2 := Lib.hid (And.intro hs (And.intro hp (And.intro hk (And.intro hL hok))))
        clear hs hp hk hok
        by_cases hj0 : 0 < j
        · obtain ⟨j', rfl⟩ : ∃ j', j = j' + 1 := ⟨j - 1, by omega⟩
          obtain ⟨x, hx⟩ : ∃ x, L[j' + 1]? = some x := ⟨_, List.getElem?_eq_getElem (by omega)⟩
          obtain ⟨y, hy⟩ : ∃ y, L[j']? = some y := ⟨_, List.getElem?_eq_getElem (by omega)⟩
          obtain ⟨a, ha, rfl⟩ := HR2.out.2.2.2.2 x (List.mem_of_getElem? hx)
          obtain ⟨b, hb, rfl⟩ := HR2.out.2.2.2.2 y (List.mem_of_getElem? hy)
          have e1 := HR2.out.2.1.read hx
          have e2 := HR2.out.2.1.read hy
          have f1 := HR2.out.2.1.frozen (j' + 1)
          have f2 := HR2.out.2.1.frozen j'
          have gx : L.getD (j' + 1) 0 = (a : Int) := by rw [List.getD_eq_getElem?_getD, hx]; rfl
          have gy : L.getD j' 0 = (b : Int) := by rw [List.getD_eq_getElem?_getD, hy]; rfl
          have hs2 := HR2.out.1
          simp only [sinkK] at hs2
          rw [gx, gy] at hs2
          have hset := (HR2.out.2.1.set_ (j' + 1) (b : Int)).set_ j' (a : Int)
          have hpm := swap_perm j' L (by omega)
          rw [gx, gy] at hpm
          have hokn := HR2.out.2.2.2.2.perm hpm
          have HS := Lib.hid (And.intro hs2 (And.intro hset hokn))
          have l2 : (0 : Int) < ((j' + 1 : Nat) : Int) := by omega
          have l3 : ((j' + 1 : Nat) : Int) < (n : Int) := by omega
          have l4 : ((j' + 1 : Nat) : Int) - 1 = (j' : Int) := by omega
          have l5 : (j' : Int) < (n : Int) := by omega
          have d0 : decide ((0 : Int) < ((j' + 1 : Nat) : Int)) = true := decide_eq_true l2
          have hq : ∀ m, Calls Tryd.prog 32 #[.int .i64 a, .int .i64 b, .pointer (some ⟨gm, 0, none⟩)] (wr.drewN m) fun e w' => e = .returned (.int .i64 (key a - key b)) ∧ ∃ q, w' = (wr.drewN m).drewN q := fun m => by
            obtain ⟨q1, q2⟩ := H.out.2.2.2.1 (wr.drewN m) (HR2.out.2.2.1.drewN m)
            have := rspan1_any a b gm n c N R rs (wr.drewN m) H.out.2.2.2.2.1 H.out.2.2.2.2.2.1 q1 q2 ha hb
            rwa [← H.out.2.2.2.2.2.2] at this
          have HQ := Lib.hid hq
          clear hx hy gx gy hs2 hset hq hL hpm hokn ha hb
          by_cases hxy : key a < key b
          · have d1 : decide (key (a : Int) - key (b : Int) < 0) = true := decide_eq_true (by omega)
            have d2 : key (a : Int) - key (b : Int) < 0 := by omega
            have hS2 := HS.out.1
            rw [if_pos hxy] at hS2
            have HS2 := Lib.hid hS2
            clear hS2
            go_upto_region 4 with fail
            go_quiet ((go_at_call 32; exact Calls.quiet_of (HQ.out _)))
            go_wp2_with fail
            go_region
            all_goals go_wp2_with fail
            all_goals go_roundw
            case rel => exact ⟨j', _, by omega, by go_num, by simp [HR2.out.2.2.2.1], HS2.out, HS.out.2.1.drewN (nq + 1), HS.out.2.2, ((HR2.out.2.2.1.setCell (.inl (by simp)) _).setCell (.inl (by simp)) _).drewN (nq + 1)⟩
            case measure => simp [intOf]
          · have d1 : decide (key (a : Int) - key (b : Int) < 0) = false := decide_eq_false (by omega)
            have hS2 := HS.out.1
            rw [if_neg hxy] at hS2
            have HS2 := Lib.hid hS2
            clear hS2
            go_upto_region 4 with fail
            go_quiet ((go_at_call 32; exact Calls.quiet_of (HQ.out _)))
            go_wp2_with fail
            go_roundw
            case rel => exact ⟨i + 1, by omega, by omega, by go_num, by rw [← HS2.out]; exact HR2.out.2.1.drewN nq, by rw [← HS2.out]; exact HR2.out.2.2.2.2, HR2.out.2.2.1.drewN nq⟩
            case measure => simp [intOf]; omega
        · obtain rfl : j = 0 := by omega
          have hS2 := HR2.out.1
          simp only [sinkK] at hS2
          have HS2 := Lib.hid hS2
          have d0 : decide ((0 : Int) < 0) = false := by decide
          clear hS2
          go_upto_region 4 with fail
          go_quiet (fail)
          go_wp2_with fail
          go_roundw
          case rel => exact ⟨i + 1, by omega, by omega, by go_num, by rw [← HS2.out]; exact HR2.out.2.1.drewN nq, by rw [← HS2.out]; exact HR2.out.2.2.2.2, HR2.out.2.2.1.drewN nq⟩
          case measure => simp [intOf]; omega
    · obtain rfl : n = i := by omega
      go_wp2_with fail
      go_end0
      exact ⟨rfl, HR.out.1, HR.out.2.1⟩

/- Contract: pdqsortOrdered on 12 ints or fewer. -/

set_option maxRecDepth 100000 in
set_option maxHeartbeats 1600000 in
theorem pdq_any (g cap n : Nat) (lim : Int) (l : List Int) (w : World) (hl : l.length = n) (hn : 1 ≤ n ∧ n ≤ 12) (h : PreB w g n cap l) :
    Calls Tryd.prog 60 #[.slice (some ⟨g, 0, none⟩) n cap, .int .i64 0, .int .i64 n, .int .i64 lim] w fun e w' => e = .returned (.tuple #[]) ∧ PreB w' g n cap (sortTo l n) ∧ Kept w.heap.size [g] w w' := by
  have H := Lib.hid (And.intro hl h)
  clear hl h
  go_enter Tryd.func60, Tryd.ntmps60
  go_wp2_with fail
  refine wp_loop_rounds 1 ?_
  rw [rounds_succ]
  go_wp2_with fail
  refine (isort_any g cap n l w H.out.1 (by omega) H.out.2).mono ?_
  rintro e w1 ⟨rfl, h1, h2⟩
  have H1 := Lib.hid (And.intro h1 h2)
  clear h1 h2
  go_wp2_with fail
  (try simp only [Exit.inBlock, Exit.then])
  refine bodyPost_ret (results_none rfl _ _ _) rfl ?_
  exact ⟨rfl, H1.out⟩

/- Contracts: SortStableFunc on a few indices; slices.Sort on up to 12 ints, none among them. -/

set_option maxHeartbeats 800000 in
theorem icmp0_any (A : Option Addr) (cap gm : Nat) (w : World) : Calls Tryd.prog 71 #[.slice A 0 cap, .int .i64 0, .int .i64 0, cmpV gm] w fun e w' => e = .returned (.tuple #[]) ∧ w' = w := by
  go_enter Tryd.func71, Tryd.ntmps71
  go_wp2_with fail
  refine wp_loop_rounds 1 ?_
  rw [rounds_succ]
  go_wp2_with fail
  go_end0
  exact ⟨rfl, rfl⟩
set_option maxHeartbeats 800000 in
theorem scmp_any (s : Value) (n gm : Nat) (hn : n < 20) (w : World) (Q : World → Prop) (hi : Calls Tryd.prog 71 #[s, .int .i64 0, .int .i64 n, cmpV gm] w fun e w' => e = .returned (.tuple #[]) ∧ Q w') :
    Calls Tryd.prog 59 #[s, .int .i64 n, cmpV gm] w fun e w' => e = .returned (.tuple #[]) ∧ Q w' := by
  have HI := Lib.hid hi
  clear hi
  have l1 : (n : Int) < 20 := by omega
  go_enter Tryd.func59, Tryd.ntmps59
  go_wp2_with fail
  refine wp_loop_rounds 1 ?_
  rw [rounds_succ]
  go_wp2_with fail
  refine HI.out.mono ?_
  rintro e w1 ⟨rfl, h1⟩
  have H1 := Lib.hid h1
  clear h1
  go_wp2_with fail
  refine wp_loop_rounds 1 ?_
  rw [rounds_succ]
  go_wp2_with fail
  go_end0
  exact ⟨rfl, H1.out⟩
set_option maxHeartbeats 800000 in
theorem sstable_any (A : Option Addr) (n cap gm : Nat) (hn : n < 20) (w : World) (Q : World → Prop) (hi : Calls Tryd.prog 71 #[.slice A n cap, .int .i64 0, .int .i64 n, cmpV gm] w fun e w' => e = .returned (.tuple #[]) ∧ Q w') :
    Calls Tryd.prog 31 #[.slice A n cap, cmpV gm] w fun e w' => e = .returned (.tuple #[]) ∧ Q w' := by
  have HI := Lib.hid (scmp_any (.slice A n cap) n gm hn w Q hi)
  clear hi
  go_enter Tryd.func31, Tryd.ntmps31
  go_wp2_with fail
  refine HI.out.mono ?_
  rintro e w1 ⟨rfl, h1⟩
  have H1 := Lib.hid h1
  clear h1
  go_wp2_with fail
  go_end0
  exact ⟨rfl, H1.out⟩
set_option maxRecDepth 100000 in
set_option maxHeartbeats 1600000 in
theorem blen64T_any (n : Nat) (hn : n ≤ 12) (w : World) : Calls Tryd.prog 83 #[.int .u64 n] w fun e w' => (∃ k : Int, e = .returned (.int .i64 k)) ∧ w = w' := by
  have h1 : ¬ (4294967296 : Int) ≤ (n : Int) := by omega
  have h2 : ¬ (65536 : Int) ≤ (n : Int) := by omega
  have h3 : ¬ (256 : Int) ≤ (n : Int) := by omega
  have h : n = 0 ∨ n = 1 ∨ n = 2 ∨ n = 3 ∨ n = 4 ∨ n = 5 ∨ n = 6 ∨ n = 7 ∨ n = 8 ∨ n = 9 ∨ n = 10 ∨ n = 11 ∨ n = 12 := by omega
  rcases h with rfl | rfl | rfl | rfl | rfl | rfl | rfl | rfl | rfl | rfl | rfl | rfl | rfl
  all_goals
    go_enter Tryd.func83, Tryd.ntmps83
    go_wp2_with fail
    go_ret
    exact ⟨⟨_, rfl⟩, rfl⟩
theorem blenT_any (n : Nat) (hn : n ≤ 12) (w : World) : Calls Tryd.prog 61 #[.int .u64 n] w fun e w' => (∃ k : Int, e = .returned (.int .i64 k)) ∧ w = w' := by
  go_enter Tryd.func61, Tryd.ntmps61
  go_wp2_with fail
  refine (blen64T_any n hn w).mono ?_
  rintro e w' ⟨⟨k, rfl⟩, rfl⟩
  go_wp2_with fail
  go_ret
  exact ⟨⟨_, rfl⟩, rfl⟩
set_option maxRecDepth 100000 in
set_option maxHeartbeats 1600000 in
theorem ssortT_any (g cap n : Nat) (l : List Int) (w : World) (hl : l.length = n) (hn : 1 ≤ n ∧ n ≤ 12) (h : PreB w g n cap l) :
    Calls Tryd.prog 35 #[.slice (some ⟨g, 0, none⟩) n cap] w fun e w' => e = .returned (.tuple #[]) ∧ PreB w' g n cap (sortTo l n) ∧ Kept w.heap.size [g] w w' := by
  have H := Lib.hid (And.intro hl h)
  clear hl h
  go_enter Tryd.func35, Tryd.ntmps35
  go_wp2_with fail
  refine (blenT_any n hn.2 w).mono ?_
  rintro e w' ⟨⟨k, rfl⟩, rfl⟩
  go_wp2_with fail
  refine (pdq_any g cap n k l w H.out.1 (by omega) H.out.2).mono ?_
  rintro e w1 ⟨rfl, h1, h2⟩
  have H1 := Lib.hid (And.intro h1 h2)
  clear h1 h2
  go_wp2_with fail
  go_end0
  exact ⟨rfl, H1.out⟩
set_option maxHeartbeats 1600000 in
theorem isort0_any (A : Option Addr) (cap : Nat) (w : World) : Calls Tryd.prog 73 #[.slice A 0 cap, .int .i64 0, .int .i64 0] w fun e w' => e = .returned (.tuple #[]) ∧ w' = w := by
  go_enter Tryd.func73, Tryd.ntmps73
  go_wp2_with fail
  refine wp_loop_rounds 1 ?_
  rw [rounds_succ]
  go_wp2_with fail
  go_end0
  exact ⟨rfl, rfl⟩
set_option maxRecDepth 100000 in
set_option maxHeartbeats 1600000 in
theorem pdq0_any (A : Option Addr) (cap : Nat) (lim : Int) (w : World) : Calls Tryd.prog 60 #[.slice A 0 cap, .int .i64 0, .int .i64 0, .int .i64 lim] w fun e w' => e = .returned (.tuple #[]) ∧ w' = w := by
  go_enter Tryd.func60, Tryd.ntmps60
  go_wp2_with fail
  refine wp_loop_rounds 1 ?_
  rw [rounds_succ]
  go_wp2_with fail
  refine (isort0_any A cap w).mono ?_
  rintro e w1 ⟨rfl, rfl⟩
  go_wp2_with fail
  (try simp only [Exit.inBlock, Exit.then])
  refine bodyPost_ret (results_none rfl _ _ _) rfl ?_
  exact ⟨rfl, rfl⟩
set_option maxRecDepth 100000 in
set_option maxHeartbeats 1600000 in
theorem ssort0_any (A : Option Addr) (cap : Nat) (w : World) : Calls Tryd.prog 35 #[.slice A 0 cap] w fun e w' => e = .returned (.tuple #[]) ∧ w' = w := by
  have HB := Lib.hid (blenT_any 0 (by omega) w)
  go_enter Tryd.func35, Tryd.ntmps35
  go_wp2_with fail
  refine HB.out.mono ?_
  rintro e w' ⟨⟨k, rfl⟩, rfl⟩
  go_wp2_with fail
  refine (pdq0_any A cap k w).mono ?_
  rintro e w1 ⟨rfl, rfl⟩
  go_wp2_with fail
  go_end0
  exact ⟨rfl, rfl⟩

/- Matrices of numbers in memory: rows in blocks of their own. -/

def rowM (f : Nat → Nat → Int) (i m : Nat) : List Int := (List.range m).map (f i)
theorem rowM_length (f : Nat → Nat → Int) (i m : Nat) : (rowM f i m).length = m := by simp [rowM]
theorem rowM_get {f : Nat → Nat → Int} {i j m : Nat} (h : j < m) : (rowM f i m)[j]? = some (f i j) := by simp [rowM, h]
def updI (f : Nat → Nat → Int) (i j : Nat) (v : Int) : Nat → Nat → Int := fun a b => if a = i ∧ b = j then v else f a b
theorem rowM_set {f : Nat → Nat → Int} {i j m : Nat} (v : Int) : (rowM f i m).set j v = rowM (updI f i j v) i m := by
  apply List.ext_getElem?
  intro t
  rw [List.getElem?_set]
  by_cases ht : t < m
  · rw [rowM_get ht]
    by_cases e : j = t
    · subst e
      rw [if_pos rfl, if_pos (by rw [rowM_length]; exact ht), rowM_get ht]
      unfold updI; rw [if_pos ⟨rfl, rfl⟩]
    · rw [if_neg e, rowM_get ht]
      unfold updI; rw [if_neg (by omega)]
  · rw [List.getElem?_eq_none (l := rowM (updI f i j v) i m) (by rw [rowM_length]; omega)]
    by_cases e : j = t
    · rw [if_pos e, if_neg (by rw [rowM_length]; omega)]
    · rw [if_neg e, List.getElem?_eq_none (by rw [rowM_length]; omega)]
theorem rowM_other {f : Nat → Nat → Int} {i j m a : Nat} (v : Int) (h : a ≠ i) : rowM (updI f i j v) a m = rowM f a m := by
  unfold rowM
  refine List.map_congr_left fun t _ => ?_
  unfold updI; rw [if_neg (fun hh => h hh.1)]
theorem rowM_congr {f f' : Nat → Nat → Int} {i m : Nat} (h : ∀ j, j < m → f i j = f' i j) : rowM f i m = rowM f' i m :=
  List.map_congr_left fun t ht => h t (List.mem_range.1 ht)
/-- k rows of m numbers; the slice of rows lies in block A. -/
structure Mx (w : World) (A k m : Nat) (R : Nat → Nat) (f : Nat → Nat → Int) : Prop where
  rows : ∀ i, i < k → w.cell? ⟨A, i, none⟩ = some (.slice (some ⟨R i, 0, none⟩) m m)
  cells : ∀ i, i < k → Blk w (R i) 3 (arr (rowM f i m))
  inj : ∀ i j, i < k → j < k → R i = R j → i = j
  ne : ∀ i, i < k → R i ≠ A
  lt : A < w.heap.size
section
variable {w w' : World} {A k m : Nat} {R : Nat → Nat} {f f' : Nat → Nat → Int}
theorem Mx.below {B : Nat} (h : Mx w A k m R f) (hb : Below B w w') (hA : A < B) (hR : ∀ i, i < k → R i < B) : Mx w' A k m R f :=
  ⟨fun i hi => (hb.cell (p := ⟨A, i, none⟩) hA).trans (h.rows i hi), fun i hi => (h.cells i hi).below hb (hR i hi), h.inj, h.ne, by have := hb.size; have := h.lt; omega⟩
theorem Mx.next (h : Mx w A k m R f) (hb : Below w.heap.size w w') : Mx w' A k m R f := h.below hb h.lt fun i hi => (h.cells i hi).lt
theorem Mx.drewN (h : Mx w A k m R f) (n : Nat) : Mx (w.drewN n) A k m R f := ⟨h.rows, h.cells, h.inj, h.ne, h.lt⟩
theorem Mx.congr (h : Mx w A k m R f) (hf : ∀ i j, i < k → j < m → f i j = f' i j) : Mx w A k m R f' :=
  ⟨h.rows, fun i hi => by rw [← rowM_congr fun j hj => hf i j hi hj]; exact h.cells i hi, h.inj, h.ne, h.lt⟩
theorem Mx.cell (h : Mx w A k m R f) {i j : Nat} (hi : i < k) (hj : j < m) : w.cell? ⟨R i, j, none⟩ = some (.int .i64 (f i j)) := by
  rw [(h.cells i hi).cell, arr_get, rowM_get hj]; rfl
theorem Mx.frozen (h : Mx w A k m R f) {i : Nat} (hi : i < k) (j : Nat) : w.frozen? ⟨R i, j, none⟩ = false := (h.cells i hi).frozen j
theorem Mx.set (h : Mx w A k m R f) {i : Nat} (hi : i < k) (j : Nat) (v : Int) : Mx (w.setCell ⟨R i, j, none⟩ (.int .i64 v)) A k m R (updI f i j v) := by
  refine ⟨fun a ha => ?_, fun a ha => ?_, h.inj, h.ne, by simpa [World.setCell] using h.lt⟩
  · rw [World.cell?_setCell_other _ _ _ _ (by intro e; injection e with e; exact h.ne i hi e)]
    exact h.rows a ha
  · by_cases e : a = i
    · subst e
      have := (h.cells a ha).set_ j (.int .i64 v)
      rwa [arr_set, rowM_set] at this
    · rw [rowM_other v e]
      exact (h.cells a ha).far (fun hh => e (h.inj a i ha hi hh)) _
theorem Mx.far (h : Mx w A k m R f) {p : Addr} (hA : p.block ≠ A) (hR : ∀ i, i < k → R i ≠ p.block) (u : Value) : Mx (w.setCell p u) A k m R f := by
  refine ⟨fun a ha => ?_, fun a ha => (h.cells a ha).far (hR a ha) _, h.inj, h.ne, by simpa [World.setCell] using h.lt⟩
  rw [World.cell?_setCell_other _ _ _ _ (by intro e; exact hA (by rw [e]))]
  exact h.rows a ha
theorem Mx.kept {B : Nat} {S : List Nat} (h : Mx w A k m R f) (hk : Kept B S w w') (hA : A < B ∧ A ∉ S) (hR : ∀ i, i < k → R i < B ∧ R i ∉ S) : Mx w' A k m R f :=
  ⟨fun i hi => (hk.cell (p := ⟨A, i, none⟩) hA.1 hA.2).trans (h.rows i hi), fun i hi => (h.cells i hi).kept hk (hR i hi).1 (hR i hi).2, h.inj, h.ne, by have := hk.size; have := h.lt; omega⟩
end

/- Sorting of what the call owns; the chosen roads one by one. -/

theorem kr_snoc {rs : List Rd} (x : Int) : ∀ (l p : List Int), krC rs p (l ++ [x]) = if (foldP p (rdL rs l)).getD (rdN rs x).1.toNat 0 = (foldP p (rdL rs l)).getD (rdN rs x).2.1.toNat 0 then krC rs p l else krC rs p l ++ [x]
  | [], p => by
    show krC rs p [x] = if p.getD (rdN rs x).1.toNat 0 = p.getD (rdN rs x).2.1.toNat 0 then [] else [x]
    rw [krC]; rfl
  | i :: l, p => by
    have e0 : foldP p (rdL rs (i :: l)) = foldP (jn p (rdN rs i)) (rdL rs l) := rfl
    rw [List.cons_append, e0, krC, krC, kr_snoc x l (jn p (rdN rs i))]
    split <;> split <;> rfl
theorem pre_of_own {w : World} {base g n c : Nat} {xs : List Int} (h : w.ownsRow base 3 1 (.slice (some ⟨g, 0, none⟩) n c) n (xs.map (Value.int .i64))) : PreB w g n c xs ∧ base ≤ g := by
  rcases h.2 with ⟨h0, _⟩ | ⟨g', cap', cur, hv, h1, h2, h3, h4, h5, h6⟩
  · cases h0
  · injection hv with e1 _ e3
    injection e1 with e1
    injection e1 with e1
    subst e1; subst e3
    exact ⟨⟨cur, h2, by rw [h5, Nat.mul_one], by rw [← h6, Nat.mul_one]⟩, h1⟩
theorem own_empty {w : World} {base c : Nat} {A : Option Addr} {xs : List Value} (h : w.ownsRow base 3 1 (.slice A 0 c) 0 xs) : xs = [] := List.eq_nil_of_length_eq_zero (by have := h.1; omega)
theorem below_of_kept {w w' : World} {base g : Nat} (hk : Kept w.heap.size [g] w w') (hb : base ≤ g) (hg : g < w.heap.size) : Below base w w' :=
  (hk.mono (B' := base) (S' := []) (by omega) (fun x hx => by rw [List.mem_singleton.1 hx]; exact .inr hb)).below
/-- SortStableFunc on the indices that the call owns. -/
theorem sstable_own {w : World} {base n cap gm c : Nat} {N : Int} {A R : Option Addr} {rs : List Rd} (hrl : rs.length = n) (hv : mapOk N rs = true) (hn : n < 20) (hown : w.ownsRow base 3 1 (.slice A n cap) n ((idxs n).map (Value.int .i64))) (hm : Blk w gm 26 #[.int .i64 N, .slice R n c]) (hgm : gm < base) (hR : ∀ wx, Below base w wx → Rds wx R rs) :
    Calls Tryd.prog 31 #[.slice A n cap, cmpV gm] w fun e w' => e = .returned (.tuple #[]) ∧ Ints w' A (ordF rs) ∧ Below base w w' := by
  by_cases h0 : n = 0
  · subst h0
    refine sstable_any A 0 cap gm hn w _ ((icmp0_any A cap gm w).mono ?_)
    rintro e w' ⟨rfl, rfl⟩
    refine ⟨rfl, ?_, Below.refl _ _⟩
    have : ordF rs = [] := List.eq_nil_of_length_eq_zero (by rw [ordF_length, hrl])
    rw [this]
    intro i v hv
    simp at hv
  · obtain ⟨g, rfl, _, hlt⟩ := own_some hown (by omega)
    obtain ⟨hp, hb⟩ := pre_of_own hown
    refine sstable_any _ n cap gm hn w _ ((icmp_any g cap n gm c N R rs (idxs n) w hrl hv (idxs_length n) (by omega) hp (okIx_idxs n) fun wx hk => ?_).mono ?_)
    · have hbl := below_of_kept hk hb hlt
      exact ⟨hm.below hbl hgm, hR wx hbl⟩
    · rintro e w' ⟨rfl, h1, h2⟩
      refine ⟨rfl, ?_, below_of_kept h2 hb hlt⟩
      have e1 : ordF rs = sortK (cost rs) (idxs n) n := by unfold ordF; rw [hrl]
      rw [e1]
      exact h1.ints
/-- slices.Sort on what the call owns. -/
theorem ssort_own {w : World} {base n cap : Nat} {A : Option Addr} {l : List Int} (hl : l.length = n) (hn : n ≤ 12) (hown : w.ownsRow base 3 1 (.slice A n cap) n (l.map (Value.int .i64))) :
    Calls Tryd.prog 35 #[.slice A n cap] w fun e w' => e = .returned (.tuple #[]) ∧ Ints w' A (sortTo l n) ∧ Below base w w' := by
  by_cases h0 : n = 0
  · subst h0
    refine (ssort0_any A cap w).mono ?_
    rintro e w' ⟨rfl, rfl⟩
    obtain rfl := List.eq_nil_of_length_eq_zero hl
    exact ⟨rfl, fun i v hv => by simp [sortTo] at hv, Below.refl _ _⟩
  · obtain ⟨g, rfl, _, hlt⟩ := own_some hown (by omega)
    obtain ⟨hp, hb⟩ := pre_of_own hown
    refine (ssortT_any g cap n l w hl (by omega) hp).mono ?_
    rintro e w' ⟨rfl, h1, h2⟩
    exact ⟨rfl, h1.ints, below_of_kept h2 hb hlt⟩
theorem lt_ownI {w : World} {bs n c : Nat} {ad : Addr} {vs : List Value} (h : w.ownsRow bs 3 1 (.slice (some ad) n c) n vs) : bs ≤ ad.block ∧ ad.block < w.heap.size := by
  rcases h.2 with ⟨h0, _⟩ | ⟨g, cap, cur, hv, h1, hg, _⟩
  · cases h0
  · injection hv with e1 _ _
    injection e1 with e1
    subst e1
    exact ⟨h1, lt_of_block hg⟩
theorem own_keptR2 {w w' : World} {base e size n : Nat} {v : Value} {xs : List Value} {S : List Nat} (h : w.ownsRow base e size v n xs) (hk : Kept w.heap.size S w w') (hS : ∀ x ∈ S, x < base) : w'.ownsRow base e size v n xs := by
  obtain ⟨h1, h2⟩ := h
  refine ⟨h1, ?_⟩
  rcases h2 with h2 | ⟨g, cap, cur, hv, a1, a2, a3⟩
  · exact .inl h2
  · exact .inr ⟨g, cap, cur, hv, a1, (hk.block g (lt_of_block a2) fun hg => by have := hS g hg; omega).trans a2, a3⟩

/- Contract: Spanning of package route. -/

set_option maxRecDepth 100000 in
set_option maxHeartbeats 3200000 in
theorem rspan_any (N : Nat) (R : Option Addr) (n c : Nat) (rs : List Rd) (w : World) (hl : rs.length = n) (hv : mapOk (N : Int) rs = true) (hR : Rds w R rs) (ht : TabW w) (h2 : 2 ≤ w.heap.size) (hn : n ≤ 12) (hreach : connB (reP rs) (2 ^ N - 1) = true) :
    Calls Tryd.prog 14 #[mapV N R n c] w fun e w' => ∃ A' c', e = .returned (.tuple #[.slice A' (spanF rs (ordF rs)).length c', .int .i64 0]) ∧ Ints w' A' (spanF rs (ordF rs)) ∧ Below w.heap.size w w' := by
  obtain ⟨w1, hw1⟩ : ∃ w1, w1 = w.alloc (.cells #[.int .i64 N, .slice R n c] 26) := ⟨_, rfl⟩
  have hB : Blk w1 w.heap.size 26 #[.int .i64 N, .slice R n c] := by rw [hw1]; exact Blk.new _ _ _ rfl
  have hb1 : Below w.heap.size w w1 := by rw [hw1]; exact (Below.refl _ _).alloc (Nat.le_refl _) _
  have hN8 := (mapOk_iff.1 hv).1
  have H := Lib.hid (And.intro hl (And.intro hv (And.intro hR (And.intro ht (And.intro hB (And.intro hb1 hreach))))))
  obtain ⟨m1, m2, _, _⟩ := hB.at2
  clear hl hv hR ht hB hb1 hreach
  go_enter Tryd.func14, Tryd.ntmps14
  go_upto_region 1 with fail
  rw [← hw1]
  clear hw1
  go_wp2_with fail
  refine (rvalid_any N R n c rs w1 H.out.1 (by omega) (H.out.2.2.1.below H.out.2.2.2.2.2.1)).mono ?_
  rintro e w2 ⟨rfl, hb2⟩
  have H2 := Lib.hid (And.intro (H.out.2.2.2.2.1.below hb2 H.out.2.2.2.2.1.lt) (H.out.2.2.2.2.2.1.trans (hb2.mono H.out.2.2.2.2.2.1.size)))
  clear hb2 m1 m2
  obtain ⟨m1, m2, _, _⟩ := H2.out.1.at2
  rw [H.out.2.1]
  have hP : IntKind.i64.wrap ((2 : Int) ^ N) = ((2 ^ N : Nat) : Int) ∧ 1 ≤ 2 ^ N ∧ 2 ^ N ≤ 256 := by
    have : N = 1 ∨ N = 2 ∨ N = 3 ∨ N = 4 ∨ N = 5 ∨ N = 6 ∨ N = 7 ∨ N = 8 := by omega
    rcases this with rfl | rfl | rfl | rfl | rfl | rfl | rfl | rfl <;> decide
  obtain ⟨P, hPe⟩ : ∃ P, P = 2 ^ N := ⟨_, rfl⟩
  have hP2 : 2 ≤ P := by rw [hPe]; exact Nat.pow_le_pow_right (n := 2) (by omega) (show 1 ≤ N by omega)
  rw [← hPe] at hP
  obtain ⟨hpw, _, hp256⟩ := hP
  obtain ⟨s, hs⟩ : ∃ s, s = P - 1 := ⟨_, rfl⟩
  have hs1 : 1 ≤ s ∧ s < 256 := by omega
  have hPs : (P : Int) - 1 = (s : Int) := by omega
  have HRE := H.out.2.2.2.2.2.2
  rw [← hPe, ← hs] at HRE
  have HRE := Lib.hid HRE
  have HST : Hid (∀ sd : Desc w2, Calls Tryd.prog 30 #[.agg #[.int .i64 N, .slice R n c], .int .i64 s] sd.val fun e w'' => e = .returned (.bool true) ∧ ∃ s' : Desc w2, w'' = s'.val) := Lib.hid fun sd => Calls.desc_of (by
    have h := rreach_any N R n c rs s sd.val H.out.1 H.out.2.1 ((H.out.2.2.1.below H2.out.2).below sd.below) hs1 ((H.out.2.2.2.1.below H2.out.2 h2).below sd.below (by have := H2.out.2.size; omega)) (by have := H2.out.2.size; have := sd.below.size; omega)
    rwa [HRE.out] at h)
  have d1 : ∀ sd : Desc w2, sd.val.cell? ⟨w.heap.size, 0, none⟩ = some (.int .i64 N) := fun sd => sd.cell m1
  have d2 : ∀ sd : Desc w2, sd.val.cell? ⟨w.heap.size, 1, none⟩ = some (.slice R n c) := fun sd => sd.cell m2
  clear hPe hs
  go_upto_region 3 with fail
  refine wp_region_desc (by kernel_rfl) (by kernel_rfl) ?_
  repeat (go_big_quiet_step (first | (go_at_call 30; exact HST.out _)))
  refine wpQuiet_nil ?_
  rintro _ ⟨sd, rfl⟩
  have hb3 := sd.below
  generalize sd.val = w3 at hb3 ⊢
  have H3 := Lib.hid (And.intro (H2.out.1.below hb3 H2.out.1.lt) (H2.out.2.trans (hb3.mono H2.out.2.size)))
  have hz3 := H3.out.2.size
  clear d1 d2 hb3 m1 m2 hpw hPs hP2 hp256 hs1
  obtain ⟨m1, m2, _, _⟩ := H3.out.1.at2
  go_upto_region 5 with fail
  go_wp2_with fail
  go_loopw [4, 23] (fun ov kv wx => ∃ (k : Nat) (OA : Option Addr) (oc : Nat), k ≤ n ∧ kv = .int .i64 k ∧ ov = .slice OA k oc ∧ wx.ownsRow w3.heap.size 3 1 (.slice OA k oc) k ((idxs k).map (Value.int .i64)) ∧ Below w3.heap.size w3 wx) (fun _ kv _ => n - (intOf kv).toNat)
  case atStart => exact ⟨0, none, 0, Nat.zero_le _, rfl, rfl, World.ownsRow_nil _ _ _ _, Below.refl _ _⟩
  case round =>
    obtain ⟨k, OA, oc, hk, rfl, rfl, hown, hbl⟩ := hrel
    obtain ⟨wo, rfl⟩ : ∃ wo : World, wo = wr := ⟨_, rfl⟩
    have HR := Lib.hid (And.intro hown hbl)
    have hbz := hbl.size
    clear hown hbl
    by_cases hlt : k < n
    · have l1 : (k : Int) < (n : Int) := by omega
      go_wp2_with (at_builtin; refine app1 sty_int rfl _ _ rfl w3.heap.size OA k oc _ #[.int .i64 k] rfl (by simp [Value.oneCell']) rfl HR.out.1 rfl (by omega) hbz ?_)
      intro A4 k4 w4 hown4 _ hbl4 hk41 hk42
      have HR4 := Lib.hid (And.intro hown4 (HR.out.2.trans hbl4))
      clear hown4 hbl4
      go_wp2_with fail
      go_roundw
      case rel => exact ⟨k + 1, A4, k4, by omega, by go_num, rfl, by rw [idxs_succ, List.map_append]; exact HR4.out.1, HR4.out.2⟩
      case measure => simp [intOf]; omega
    · obtain rfl : n = k := by omega
      have hm := H3.out.1.below HR.out.2 H3.out.1.lt
      have hbo := H3.out.2.trans (HR.out.2.mono hz3)
      have HSO := Lib.hid (sstable_own (gm := w.heap.size) (c := c) (N := (N : Int)) (R := R) H.out.1 H.out.2.1 (by omega) HR.out.1 hm H3.out.1.lt (fun wx hb => H.out.2.2.1.below (hbo.trans (hb.mono hz3))))
      have HOW := HR.out.1
      have hOA : ∀ ad, OA = some ad → ad.block < wo.heap.size := fun ad had => by subst had; exact (lt_ownI HOW).2
      have HO := Lib.hid (And.intro hm (And.intro hbo hOA))
      clear hm hbo HOW hOA m1 m2
      go_upto_region 11 with fail
      go_wp2_with fail
      refine HSO.out.mono ?_
      rintro e w5 ⟨rfl, hI5, hb5⟩
      have hz5 := hb5.size
      have hs5 : wo.heap.size ≤ w5.heap.size := hb5.size
      have H5 := Lib.hid (And.intro hI5 (And.intro (HO.out.1.below hb5 H3.out.1.lt) (HO.out.2.1.trans (hb5.mono hz3))))
      clear hI5 hb5
      go_wp2_with fail
      refine (rapart_any w5).mono ?_
      rintro e w6 ⟨rfl, hb6⟩
      have hz6 := hb6.size
      have hp7 : Blk (w6.alloc (.cells (arr p8) 75)) w6.heap.size 75 (arr p8) := Blk.new _ _ _ rfl
      have hb7 : Below w5.heap.size w5 (w6.alloc (.cells (arr p8) 75)) := hb6.alloc hz6 _
      rw [ptV_p8]
      obtain ⟨gp, hgp⟩ : ∃ gp, gp = w6.heap.size := ⟨_, rfl⟩
      rw [← hgp] at hp7 hz6
      go_upto_region 13 with fail
      rw [← hgp]
      obtain ⟨w7, hw7⟩ : ∃ w7, w7 = w6.alloc (.cells (arr p8) 75) := ⟨_, rfl⟩
      have e7 : w6.alloc (.cells #[.int .i64 0, .int .i64 1, .int .i64 2, .int .i64 3, .int .i64 4, .int .i64 5, .int .i64 6, .int .i64 7] 75) = w7 := hw7.symm
      rw [← hw7] at hp7 hb7
      rw [e7]
      have hz7 := hb7.size
      have H7 := Lib.hid (And.intro hp7 (And.intro hb7 hw7))
      clear e7 hw7 hp7 hb7 hb6 hgp
      go_upto_region 14 with fail
      obtain ⟨ol, hol⟩ : ∃ ol, ol = ordF rs := ⟨_, rfl⟩
      have holn : ol.length = n := by rw [hol, ordF_length, H.out.1]
      have hord : Ord rs ol := by rw [hol]; exact ordF_ord rs
      have hI7 := H5.out.1
      rw [← hol] at hI7
      have HOL := Lib.hid (And.intro holn (And.intro hord (And.intro hI7 hol)))
      have hst : Blk (w7.alloc (.cells #[] 3)) gp 75 (arr p8) ∧ (w7.alloc (.cells #[] 3)).ownsRow w7.heap.size 3 1 (.slice (some ⟨w7.heap.size, 0, none⟩) 0 0) 0 [] ∧ Kept w7.heap.size [gp] w7 (w7.alloc (.cells #[] 3)) :=
        ⟨H7.out.1.alloc _, by simpa using World.ownsRow_lit (base := w7.heap.size) (e := 3) (size := 1) w7 #[] 0 (Nat.le_refl _) (by decide) rfl, (Kept.refl _ _ _).alloc (Nat.le_refl _) _⟩
      have HS0 := Lib.hid hst
      have hg7 := H7.out.1.lt
      clear hst hI7 holn hord hol
      go_wp2_with fail
      go_loopw [7, 38] (fun lv kv wx => ∃ (k : Nat) (LA : Option Addr) (lc : Nat), k ≤ n ∧ kv = .int .i64 k ∧ lv = .slice LA (krC rs p8 (ol.take k)).length lc ∧ Blk wx gp 75 (arr (foldP p8 (rdL rs (ol.take k)))) ∧ wx.ownsRow w7.heap.size 3 1 (.slice LA (krC rs p8 (ol.take k)).length lc) (krC rs p8 (ol.take k)).length ((krC rs p8 (ol.take k)).map (Value.int .i64)) ∧ Kept w7.heap.size [gp] w7 wx) (fun _ kv _ => n - (intOf kv).toNat)
      case atStart => exact ⟨0, some ⟨w7.heap.size, 0, none⟩, 0, Nat.zero_le _, rfl, rfl, HS0.out.1, HS0.out.2.1, HS0.out.2.2⟩
      case round =>
        obtain ⟨k, LA, lc, hk, rfl, rfl, hp, hown, hkp⟩ := hrel
        obtain ⟨wq, rfl⟩ : ∃ wq : World, wq = wr := ⟨_, rfl⟩
        have hzq := hkp.size
        have hb7q : Below w5.heap.size w7 wq := below_of_kept (hkp.mono (Nat.le_refl _) fun x hx => .inl hx) hz6 hg7
        have hbwq : Below w.heap.size w wq := H5.out.2.2.trans ((H7.out.2.1.trans hb7q).mono (by omega))
        have HR2 := Lib.hid (And.intro hp (And.intro hown (And.intro hkp hbwq)))
        have hgq := hp.lt
        by_cases hlt : k < n
        · obtain ⟨x, hx⟩ : ∃ x, ol[k]? = some x := ⟨_, List.getElem?_eq_getElem (by rw [HOL.out.1]; exact hlt)⟩
          obtain ⟨m, hm, rfl⟩ := HOL.out.2.1.mem.1 (List.mem_of_getElem? hx)
          rw [H.out.1] at hm
          have hIq : Ints wq OA ol := HOL.out.2.2.1.below (H7.out.2.1.trans hb7q)
          obtain ⟨aO, rfl, _, hcO⟩ := hIq.some_ (by rw [HOL.out.1]; omega)
          have c0 := hcO k _ hx
          obtain ⟨r, hr⟩ : ∃ r, rs[m]? = some r := ⟨_, List.getElem?_eq_getElem (by rw [H.out.1]; exact hm)⟩
          obtain ⟨aR, hRA, _, hcR⟩ := (H.out.2.2.1.below hbwq).some_ (by rw [H.out.1]; omega)
          subst hRA
          obtain ⟨q1, q2, q3⟩ := hcR m r hr
          obtain ⟨a, b, ea, eb, ⟨ha, hb⟩, _, _, _, _⟩ := rd_ok H.out.2.1 hr
          have hrd : rdN rs (m : Int) = r := by unfold rdN; rw [Int.toNat_natCast, List.getD_eq_getElem?_getD, hr]; rfl
          obtain ⟨m1, m2, _, _⟩ := ((H5.out.2.1.below H7.out.2.1 (by have := H5.out.2.1.lt; exact this)).below hb7q (by have := H5.out.2.1.lt; exact this)).at2
          obtain ⟨r1, r2, cc⟩ := r
          simp only at ea eb q1 q2 q3
          subst ea; subst eb
          have hT := take_succ' hx
          have hkr := kr_snoc (rs := rs) (m : Int) (ol.take k) p8
          rw [← hT, hrd] at hkr
          simp only [Int.toNat_natCast] at hkr
          have hfo : foldP p8 (rdL rs (ol.take (k + 1))) = pjoinL (foldP p8 (rdL rs (ol.take k))) a b := by
            rw [hT, rdL_snoc, foldP_app]
            show jn _ (rdN rs m) = _
            rw [hrd]
            unfold jn
            simp only [Int.toNat_natCast]
          have hp8 : (foldP p8 (rdL rs (ol.take k))).length = 8 := reP_length (rdL rs (ol.take k))
          have hC16 : (krC rs p8 (ol.take k)).length ≤ 16 := by
            have := (kr_sub (rs := rs) (ol.take k) p8).length_le
            rw [List.length_take] at this
            omega
          obtain ⟨p, hpe⟩ : ∃ p, p = foldP p8 (rdL rs (ol.take k)) := ⟨_, rfl⟩
          obtain ⟨C, hCe⟩ : ∃ C, C = krC rs p8 (ol.take k) := ⟨_, rfl⟩
          rw [← hpe] at hkr hfo hp8 HR2
          rw [← hCe] at hkr hC16 HR2 ⊢
          have HJ := Lib.hid (prjoin_any gp a b cc p wq hp8 ha hb HR2.out.1)
          have HT := Lib.hid (And.intro hkr hfo)
          have l1 : (k : Int) < (n : Int) := by omega
          have l2 : (0 : Int) ≤ (k : Int) := by omega
          have l3 : (m : Int) < (n : Int) := by omega
          have l4 : (0 : Int) ≤ (m : Int) := by omega
          clear hp hown hkp hkr hfo hp8 hrd hcR hcO hIq hT hpe hCe hr hx hb7q hbwq
          by_cases e : p.getD a 0 = p.getD b 0
          · have HK := HT.out.1
            rw [if_pos e] at HK
            have HK := Lib.hid HK
            have ed : decide (p.getD a 0 ≠ p.getD b 0) = false := decide_eq_false (fun h => h e)
            rw [ed] at HJ
            clear e ed
            go_upto_region 17 with fail
            go_wp2_with fail
            refine HJ.out.mono ?_
            rintro e w9 ⟨rfl, hp9, hk9⟩
            have H9 := Lib.hid (And.intro hp9 hk9)
            clear hp9 hk9 c0 q1 q2 q3 m1 m2
            go_wp2_with fail
            go_roundw
            case rel =>
              refine ⟨k + 1, LA, lc, by omega, by go_num, ?_, ?_, ?_, ?_⟩
              · rw [HK.out]
              · rw [HT.out.2]; exact H9.out.1
              · rw [HK.out]; exact own_keptR2 HR2.out.2.1 H9.out.2 (by simp; omega)
              · exact HR2.out.2.2.1.trans (H9.out.2.mono (by omega) fun x hx => .inl hx)
            case measure => simp [intOf]; omega
          · have HK := HT.out.1
            rw [if_neg e] at HK
            have HK := Lib.hid HK
            have ed : decide (p.getD a 0 ≠ p.getD b 0) = true := decide_eq_true e
            rw [ed] at HJ
            clear e ed
            go_upto_region 17 with fail
            go_wp2_with fail
            refine HJ.out.mono ?_
            rintro e w9 ⟨rfl, hp9, hk9⟩
            have hz9 : w7.heap.size ≤ w9.heap.size := by have := hk9.size; omega
            have H9 := Lib.hid (And.intro hp9 (And.intro hk9 (own_keptR2 HR2.out.2.1 hk9 (by simp; omega))))
            clear hp9 hk9 c0 q1 q2 q3 m1 m2
            go_upto_region 18 with fail
            go_wp2_with (at_builtin; refine app1 sty_int rfl _ _ rfl w7.heap.size LA C.length lc _ #[.int .i64 m] rfl (by simp [Value.oneCell']) rfl H9.out.2.2 rfl (by omega) hz9 ?_)
            intro A4 k4 w10 hown10 _ hbl10 hk41 hk42
            have hgl := H9.out.1.below hbl10 hg7
            have hkk := HR2.out.2.2.1.trans ((H9.out.2.1.mono (B' := w7.heap.size) (by omega) fun x hx => .inl hx).trans (Kept.of_below hbl10 [gp]))
            have HR4 := Lib.hid (And.intro hown10 (And.intro hgl hkk))
            have hlC : (C ++ [(m : Int)]).length = C.length + 1 := by simp
            have hmC : (C ++ [(m : Int)]).map (Value.int .i64) = C.map (Value.int .i64) ++ [.int .i64 m] := by simp
            have HLC := Lib.hid (And.intro hlC hmC)
            clear hown10 hbl10 hgl hkk hlC hmC
            go_wp2_with fail
            go_roundw
            case rel =>
              refine ⟨k + 1, A4, k4, by omega, by go_num, ?_, ?_, ?_, ?_⟩
              · rw [HK.out, HLC.out.1]
              · rw [HT.out.2]; exact HR4.out.2.1
              · rw [HK.out, HLC.out.2, HLC.out.1]; exact HR4.out.1
              · exact HR4.out.2.2
            case measure => simp [intOf]; omega
        · obtain rfl : n = k := by omega
          have hT : ol.take n = ol := List.take_of_length_le (by rw [HOL.out.1]; exact Nat.le_refl _)
          rw [hT] at HR2 hown ⊢
          have hC12 : (krC rs p8 ol).length ≤ 12 := by
            have := (kr_sub (rs := rs) ol p8).length_le
            rw [HOL.out.1] at this
            omega
          have HSS := Lib.hid (ssort_own rfl hC12 HR2.out.2.1)
          have hsp : spanF rs (ordF rs) = sortTo (krC rs p8 ol) (krC rs p8 ol).length := by rw [← HOL.out.2.2.2]; rfl
          have hsl : (spanF rs (ordF rs)).length = (krC rs p8 ol).length := by rw [hsp, sortTo_length]
          have HSP := Lib.hid (And.intro hsp hsl)
          clear hp hown hkp hb7q hbwq hT hsp hsl
          go_upto_region 20 with fail
          go_wp2_with fail
          refine HSS.out.mono ?_
          rintro e w9 ⟨rfl, hI9, hb9⟩
          have H9 := Lib.hid (And.intro hI9 (HR2.out.2.2.2.trans (hb9.mono (by have := H5.out.2.2.size; omega))))
          clear hI9 hb9
          go_wp2_with fail
          go_ret2
          refine ⟨LA, lc, by rw [HSP.out.2]; rfl, by rw [HSP.out.1]; exact H9.out.1, H9.out.2⟩

/- Contracts: math/bits.Mul at small numbers, slices.Repeat of one number (the far one). -/

set_option maxHeartbeats 1600000 in
theorem bmul64_any (m : Nat) (hm : m ≤ 8) (w : World) : Calls Tryd.prog 95 #[.int .u64 1, .int .u64 (m : Int)] w fun e w' => e = .returned (.tuple #[.int .u64 0, .int .u64 (m : Int)]) ∧ w = w' := by
  have h : m = 0 ∨ m = 1 ∨ m = 2 ∨ m = 3 ∨ m = 4 ∨ m = 5 ∨ m = 6 ∨ m = 7 ∨ m = 8 := by omega
  rcases h with rfl | rfl | rfl | rfl | rfl | rfl | rfl | rfl | rfl
  all_goals
    go_enter Tryd.func95, Tryd.ntmps95
    go_wp2_with fail
    go_ret2
    exact ⟨rfl, rfl⟩

set_option maxHeartbeats 1600000 in
theorem bmul_any (m : Nat) (hm : m ≤ 8) (w : World) : Calls Tryd.prog 84 #[.int .u64 1, .int .u64 (m : Int)] w fun e w' => e = .returned (.tuple #[.int .u64 0, .int .u64 (m : Int)]) ∧ w = w' := by
  go_enter Tryd.func84, Tryd.ntmps84
  go_wp2_with fail
  refine (bmul64_any m hm w).mono ?_
  rintro e w' ⟨rfl, rfl⟩
  go_wp2_with fail
  go_ret2
  exact ⟨rfl, rfl⟩

/-- The first k are the number of all fars, the others 0. -/
def fars (m k : Nat) : List Int := List.replicate k (1048576) ++ List.replicate (m - k) 0
theorem fars_all (m : Nat) : fars m m = List.replicate m (1048576) := by unfold fars; rw [Nat.sub_self]; simp
theorem fars_length {m k : Nat} (h : k ≤ m) : (fars m k).length = m := by unfold fars; simp; omega
theorem fars_splice {m k j : Nat} (h : k + j ≤ m) : splice ((fars m k).map (Value.int .i64)) k ((List.replicate j (1048576)).map (Value.int .i64)) = (fars m (k + j)).map (Value.int .i64) := by
  unfold splice fars
  apply List.ext_getElem?
  intro i
  simp only [List.map_append, List.map_replicate, List.length_replicate]
  by_cases h1 : i < k
  · rw [List.getElem?_append_left (by simp; omega), List.getElem?_take_of_lt h1, List.getElem?_append_left (by simp; omega), List.getElem?_append_left (by simp; omega)]
    simp [h1, show i < k + j by omega]
  · rw [List.getElem?_append_right (by simp; omega)]
    simp only [List.length_take, List.length_append, List.length_replicate, show min k (k + (m - k)) = k by omega]
    by_cases h2 : i < k + j
    · rw [List.getElem?_append_left (by simp; omega), List.getElem?_append_left (by simp; omega)]
      simp [h2, show i - k < j by omega]
    · rw [List.getElem?_append_right (by simp; omega), List.getElem?_drop, List.getElem?_append_right (by simp; omega), List.getElem?_append_right (by simp; omega)]
      simp only [List.length_replicate, List.getElem?_replicate]
      by_cases h3 : i - (k + j) < m - (k + j)
      · rw [if_pos h3, if_pos (by omega)]
      · rw [if_neg h3, if_neg (by omega)]

theorem size_int1 : (Tryd.prog.info? 3).map (·.size) = some 1 := by kernel_rfl

set_option maxRecDepth 100000 in
set_option maxHeartbeats 1600000 in
theorem repeatI_any (m gx : Nat) (hm : 1 ≤ m ∧ m ≤ 8) (w : World) (hx : Blk w gx 3 (arr [1048576])) :
    Calls Tryd.prog 65 #[.slice (some ⟨gx, 0, none⟩) 1 1, .int .i64 m] w fun e w' => ∃ g, e = .returned (.slice (some ⟨g, 0, none⟩) m m) ∧ Blk w' g 3 (arr (List.replicate m (1048576))) ∧ w.heap.size ≤ g ∧ Below w.heap.size w w' := by
  have hmk := make_ints m (by omega)
  have hgx := hx.lt
  have HX := Lib.hid hx
  clear hx
  go_enter Tryd.func65, Tryd.ntmps65
  go_wp2_with fail
  refine (bmul_any m hm.2 w).mono ?_
  rintro e w' ⟨rfl, rfl⟩
  have hB0 : Blk (w.alloc (.cells (arr (List.replicate m 0)) 3)) w.heap.size 3 ((fars m 0).map (Value.int .i64)).toArray := by
    have e : fars m 0 = List.replicate m 0 := by simp [fars]
    rw [e]; exact Blk.new _ _ _ rfl
  have HB0 := Lib.hid hB0
  clear hB0
  have hB1 : At (w.alloc (.cells (arr (List.replicate m 0)) 3)) (some ⟨gx, 0, none⟩) [.int .i64 (1048576)] := (HX.out.alloc _).at_
  have hpos : 0 < [Value.int .i64 (1048576)].length → (some (⟨w.heap.size, 0, none⟩ : Addr) = some ⟨w.heap.size, 0, none⟩ ∧ ∃ ad, some (⟨gx, 0, none⟩ : Addr) = some ad ∧ ∀ j v, [Value.int .i64 (1048576)][j]? = some v → (w.alloc (.cells (arr (List.replicate m 0)) 3)).cell? (ad.add j) = some v) := fun _ => ⟨rfl, _, rfl, hB1.some2⟩
  have HPOS := Lib.hid (And.intro hpos (And.intro (show [Value.int .i64 (1048576)].length = Nat.min 1 m from (Nat.min_eq_left hm.1).symm) (show 0 + [Value.int .i64 (1048576)].length ≤ ((fars m 0).map (Value.int .i64)).length by rw [List.length_map, fars_length (Nat.zero_le _)]; show 0 + 1 ≤ m; omega)))
  have hone : ∀ v ∈ [Value.int .i64 (1048576)], v.oneCell' = true := by simp [Value.oneCell']
  have HONE := Lib.hid hone
  have hb0 : Below w.heap.size w (w.alloc (.cells (arr (List.replicate m 0)) 3)) := (Below.refl _ _).alloc (Nat.le_refl _) _
  have HBL := Lib.hid hb0
  clear hB1 hpos hone hb0
  go_wp2_with (refine wpList_copy_splice (o := ⟨some 33, _, _, _, _, _⟩) rfl (.tmp 31) (.tmp 32) _ _ rfl 3 Tryd.underlying22 size_int1 (some ⟨w.heap.size, 0, none⟩) (some ⟨gx, 0, none⟩) m m 1 1 rfl rfl w.heap.size 0 ((fars m 0).map (Value.int .i64)) 3 HB0.out [.int .i64 (1048576)] ?c1 ?c2 ?c3 HONE.out w.heap.size w ((Below.refl _ _).alloc (Nat.le_refl _) _) (Nat.le_refl _) ?_)
  case c1 => exact HPOS.out.2.1
  case c2 =>
    exact fun j v hj => by rw [HX.out.cell, ← Array.getElem?_toList]; exact hj
  case c3 => exact HPOS.out.2.2
  intro w1 hs1 hb1
  have hB1 : Blk w1 w.heap.size 3 (arr (fars m 1)) := by
    have h := hs1.out
    have e := fars_splice (m := m) (k := 0) (j := 1) (by omega)
    rw [show ((List.replicate 1 (1048576)).map (Value.int .i64)) = [Value.int .i64 (1048576)] from rfl] at e
    rw [e] at h
    exact h
  have H1 := Lib.hid (And.intro hB1 hb1)
  clear hs1 hB1 hb1
  go_wp2_with fail
  go_loopw [8] (fun nv wr => ∃ k : Nat, 1 ≤ k ∧ k ≤ m ∧ nv = .int .i64 k ∧ Blk wr w.heap.size 3 (arr (fars m k)) ∧ Below w.heap.size w wr) (fun nv _ => m - (intOf nv).toNat)
  case atStart => exact ⟨1, by omega, hm.1, rfl, H1.out.1, H1.out.2⟩
  case round =>
    obtain ⟨k, hk1, hk, rfl, hB, hbl⟩ := hrel
    have HR := Lib.hid (And.intro hB hbl)
    clear hB hbl
    by_cases hlt : k < m
    · have l1 : (k : Int) < (m : Int) := by omega
      have hne : ¬ m = k := by omega
      have l2 : (0 : Int) ≤ (k : Int) := by omega
      have l3 : (k : Int) ≤ (m : Int) := by omega
      obtain ⟨j, hj⟩ : ∃ j, j = min k (m - k) := ⟨_, rfl⟩
      have hj1 : k + j ≤ m ∧ 1 ≤ j ∧ j ≤ 8 := by omega
      have hlen : ((List.replicate j (1048576)).map (Value.int .i64)).length = Nat.min k (m - k) := by rw [List.length_map, List.length_replicate, hj]
      have hfit : k + ((List.replicate j (1048576)).map (Value.int .i64)).length ≤ ((fars m k).map (Value.int .i64)).length := by rw [List.length_map, List.length_replicate, List.length_map, fars_length hk]; exact hj1.1
      have hone : ∀ v ∈ (List.replicate j (1048576)).map (Value.int .i64), v.oneCell' = true := ints_one _
      have hsrc : ∀ (i : Nat) (v : Value), ((List.replicate j (1048576)).map (Value.int .i64))[i]? = some v → wr.drew.cell? ((⟨w.heap.size, 0, none⟩ : Addr).add i) = some v := by
        intro i v hv
        refine (Blk.at_ HR.out.1).some2 i v ?_
        rw [← hv]
        unfold arr fars
        have hi : i < j := by
          have := (List.getElem?_eq_some_iff.1 hv).1; simpa using this
        simp only [List.map_append, List.map_replicate]
        rw [List.getElem?_append_left (by simp; omega)]
        simp [hi, show i < k by omega]
      have ew : IntKind.i64.wrap ((k : Int) + (j : Int)) = (k : Int) + (j : Int) := IntWalk.i64_in _ (by omega)
      have HL := Lib.hid (And.intro hlen (And.intro hfit (And.intro hone (And.intro hsrc hj))))
      clear hlen hfit hone hsrc hj
      have HBL2 : Hid (Blk wr.drew w.heap.size 3 (arr (fars m k)) ∧ Below w.heap.size w wr.drew) := Lib.hid ⟨HR.out.1, HR.out.2.drew⟩
      go_wp2_with fail
      go_region_law ((refine step_copy_splice (o := ⟨some 45, _, _, _, _, _⟩) (by rfl) (.tmp 41) (.tmp 44) _ _ (by rfl) 3 Tryd.underlying22 size_int1 (some ⟨w.heap.size, k, none⟩) (some ⟨w.heap.size, 0, none⟩) (m - k) (m - k) k m (by simp [Act.eval, Act.put]) (by simp [Act.eval, Act.put]) w.heap.size k ((fars m k).map (Value.int .i64)) 3 HBL2.out.1 ((List.replicate j (1048576)).map (Value.int .i64)) HL.out.1 (fun _ => ⟨rfl, _, rfl, HL.out.2.2.2.1⟩) HL.out.2.1 HL.out.2.2.1 w.heap.size w HBL2.out.2 (Nat.le_refl _) ?_; intro w2 hs2 hb2))
      all_goals
        have hB2 : Blk w2 w.heap.size 3 (arr (fars m (k + j))) := by
          have h := hs2.out
          rw [fars_splice hj1.1] at h
          exact h
        have H2 := Lib.hid (And.intro hB2 hb2)
        clear hs2 hB2 hb2
        go_roundw
        case rel =>
          (repeat apply Exists.intro)
          refine ⟨⟨k + j, by omega, hj1.1, ?e, H2.out.1, H2.out.2⟩, rfl⟩
          go_num
        case measure =>
          show m - ((k : Int) + (j : Int)).toNat < m - ((k : Int)).toNat
          omega
    · obtain rfl : k = m := by omega
      go_wp2_with fail
      go_ret
      exact ⟨w.heap.size, rfl, by rw [← fars_all]; exact HR.out.1, Nat.le_refl _, HR.out.2⟩

/- The laws of append of the text before, as laws of a walk. -/

theorem freshN {T e : TypeId} {z : Value} {size bytes : Nat} (ty : STy T e z size bytes) {ops : Array Oper} {rest : List Oper} {o : Oper} {a : Act} {Q : Exit → Act → World → Prop} {w : World}
    (hgd : o.guard = none) (s x : Operand) (ho : o.op = .call { callee := .builtin .append, args := #[s, x], argTypes := #[T, T] })
    (A : Option Addr) (n : Nat) (olds : List Value) (hlo : olds.length = n * size) (hA : At w A olds) (h0 : A = none → n = 0) (hd : n ≠ 0 → ∃ ad, A = some ad)
    (ad : Addr) (m c : Nat) (news : List Value) (hl : news.length = m * size) (hnews : ∀ j u, news[j]? = some u → w.cell? (ad.add j) = some u)
    (hs : a.eval s = .slice A n n) (hx : a.eval x = .slice (some ad) m c) (hm : 0 < m) (hn : n + m ≤ 1000000)
    (h : ∀ (k' : Nat) (w' : World), w'.ownsRow w.heap.size e size (.slice (some ⟨w.heap.size, 0, none⟩) (n + m) k') (n + m) (olds ++ news) → Below w.heap.size w w' → n + m ≤ k' → k' ≤ 9223372036854775807 →
      wpList Tryd.prog ops Q rest (a.put o.dst (.slice (some ⟨w.heap.size, 0, none⟩) (n + m) k')) w') : wpList Tryd.prog ops Q (o :: rest) a w :=
  wpList_plain hgd fun _ hK => wp_fresh ty s x ho A n olds hlo hA h0 hd ad m c news hl hnews hs hx hm hn fun k' w' a1 a2 a3 a4 => hK _ _ (h k' w' a1 a2 a3 a4)

/-- One element, whose block's number is spelled in some way. -/
theorem app1h {T e : TypeId} {z : Value} {size bytes : Nat} (ty : STy T e z size bytes) {ops : Array Oper} {rest : List Oper} {o : Oper} {a : Act} {Q : Exit → Act → World → Prop} {w : World}
    (hgd : o.guard = none) (s x : Operand) (ho : o.op = .call { callee := .builtin .append, args := #[s, x], argTypes := #[T, T] })
    (base : Nat) (A : Option Addr) (n k : Nat) (xs : List Value) (cs : Array Value) (hcs : cs.size = size) (h1 : ∀ u ∈ cs.toList, u.oneCell' = true)
    (hs : a.eval s = .slice A n k) (hown : w.ownsRow base e size (.slice A n k) n xs) (g : Nat) (hx : a.eval x = .slice (some ⟨g, 0, none⟩) 1 1) (hg : g = w.heap.size)
    (hn : n ≤ 1000000) (hb : base ≤ w.heap.size)
    (h : ∀ (A' : Option Addr) (k' : Nat) (w' : World), w'.ownsRow base e size (.slice A' (n + 1) k') (n + 1) (xs ++ cs.toList) → w.grownBy w' (Value.slice A n k).ownBlock → Below base w w' → n + 1 ≤ k' → k' ≤ 9223372036854775807 →
      wpList Tryd.prog ops Q rest (a.put o.dst (.slice A' (n + 1) k')) w') : wpList Tryd.prog ops Q (o :: rest) a (w.alloc (.cells cs e)) := by
  subst hg
  exact app1 ty hgd s x ho base A n k xs cs hcs h1 hs hown hx hn hb h
/-- Any elements, also none of nil, to an owned slice. -/
theorem appN {T e : TypeId} {z : Value} {size bytes : Nat} (ty : STy T e z size bytes) {ops : Array Oper} {rest : List Oper} {o : Oper} {a : Act} {Q : Exit → Act → World → Prop} {w : World}
    (hgd : o.guard = none) (s x : Operand) (ho : o.op = .call { callee := .builtin .append, args := #[s, x], argTypes := #[T, T] })
    (base : Nat) (A : Option Addr) (n k : Nat) (xs : List Value)
    (hs : a.eval s = .slice A n k) (hown : w.ownsRow base e size (.slice A n k) n xs)
    (B : Option Addr) (m c : Nat) (news : List Value) (hB : B = none → m = 0 ∧ c = 0) (hl : news.length = m * size) (hnews : At w B news) (h1 : ∀ u ∈ news, u.oneCell' = true) (hx : a.eval x = .slice B m c)
    (hn : n + m ≤ 1000000) (hb : base ≤ w.heap.size)
    (h : ∀ (A' : Option Addr) (k' : Nat) (w' : World), w'.ownsRow base e size (.slice A' (n + m) k') (n + m) (xs ++ news) → w.grownBy w' (Value.slice A n k).ownBlock → Below base w w' → n + m ≤ k' → k' ≤ 9223372036854775807 →
      wpList Tryd.prog ops Q rest (a.put o.dst (.slice A' (n + m) k')) w') : wpList Tryd.prog ops Q (o :: rest) a w := by
  cases B with
  | none =>
    obtain ⟨rfl, rfl⟩ := hB rfl
    obtain rfl : news = [] := List.eq_nil_of_length_eq_zero (by simpa using hl)
    obtain ⟨i0, hi, _, hz1, _⟩ := info_parts ty.inf
    subst hz1
    refine wpList_append_own_none hgd s x T ho base e i0 i0.size ty.ht hi (.slice A n k) n xs hs (by simpa using hown) hx ?_
    obtain ⟨_, _, he, h3, h4, _⟩ := own_form hown
    injection he with _ _ he
    subst he
    exact h A k w (by simpa using hown) ⟨rfl, rfl, rfl, Nat.le_refl _, fun _ _ _ => rfl⟩ (Below.refl _ _) (by omega) h4
  | some ad => exact wpList_plain hgd fun _ hK => wp_appN ty s x ho base A n k xs hs hown ad m c news hl (At.some2 hnews) h1 hx hn hb fun A' k' w' a1 a2 a3 a4 a5 => hK _ _ (h A' k' w' a1 a2 a3 a4 a5)

/- Where a slice lies after append: where it lay, or in new memory. -/

/-- The first lies where the second lies, or in new memory. -/
def Stay (w : World) (v' v : Value) : Prop := ∀ ad' n' k', v' = .slice (some ad') n' k' → (∃ n k, v = .slice (some ad') n k) ∨ w.heap.size ≤ ad'.block

theorem run_where {T e : TypeId} {z : Value} {size bytes : Nat} (ty : STy T e z size bytes) (rt : TypeId) {w w' : World} {base : Nat} {v v' : Value} {n : Nat} {xs : List Value} (hown : w.ownsRow base e size v n xs)
    {a : Addr} {m c : Nat} {news : List Value} (hl : news.length = m * size) (hnews : ∀ j u, news[j]? = some u → w.cell? (a.add j) = some u) (h1 : ∀ u ∈ news, u.oneCell' = true)
    (hn : n + m ≤ 1000000) (hr : (Builtin.append_ #[T, T] rt #[v, .slice (some a) m c]).run Tryd.prog w = .ok v' w') (hm : 0 < m) : Stay w v' v := by
  obtain ⟨i0, hi, hz0, hz1, hz2⟩ := info_parts ty.inf
  have hb : (n + m) * i0.bytes ≤ 140737488355328 := by
    have h2 := ty.hby
    rw [hz2]
    calc (n + m) * bytes ≤ 1000000 * 100 := Nat.mul_le_mul (by omega) h2
      _ ≤ _ := by decide
  have hb2 : m * i0.bytes ≤ 281474976710656 := Nat.le_trans (Nat.mul_le_mul_right _ (by omega)) (Nat.le_trans hb (by decide))
  intro ad' n' k' he
  rcases hown.2 with ⟨rfl, rfl⟩ | ⟨g, cap, cur, rfl, hbg, hg, hnc, hcm, hcs, htake⟩
  · have h := run_append_nil (P := Tryd.prog) w T rt e i0 z ty.ht hi hz0 a m c news (by rw [hz1]; exact hl) hnews hm (by omega) hb2
    rw [h] at hr
    injection hr with hr _
    rw [← hr] at he
    injection he with he
    injection he with he
    exact .inr (by rw [← he]; exact Nat.le_refl _)
  · by_cases hroom : n + m ≤ cap
    · have hfit : n * i0.size + news.length ≤ cur.size := by rw [hz1, hl, hcs, ← Nat.add_mul]; exact Nat.mul_le_mul_right _ hroom
      have h := run_append_room (P := Tryd.prog) w T rt e i0 ty.ht hi g n cap cur hg a m c news (by rw [hz1]; exact hl) hnews h1 hroom hfit
      rw [h] at hr
      injection hr with hr _
      rw [← hr] at he
      injection he with he
      exact .inl ⟨n, cap, by rw [he]⟩
    · have holds : ∀ j u, xs[j]? = some u → w.cell? ((⟨g, 0, none⟩ : Addr).add j) = some u := hown.cells (g := g) rfl
      have h := run_append_grow (P := Tryd.prog) w T rt e i0 z ty.ht hi hz0 ⟨g, 0, none⟩ n cap xs (by rw [hz1]; exact hown.1) holds a m c news (by rw [hz1]; exact hl) hnews (by omega) (by omega) (growslice_fits (by omega) hb)
      rw [h] at hr
      injection hr with hr _
      rw [← hr] at he
      injection he with he
      injection he with he
      exact .inr (by rw [← he]; exact Nat.le_refl _)

theorem wp_app1w {T e : TypeId} {z : Value} {bytes : Nat} (ty : STy T e z 1 bytes) {o : Oper} {a : Act} {K : Act → World → Prop} {Q : Exit → Act → World → Prop} {w : World}
    (s x : Operand) (ho : o.op = .call { callee := .builtin .append, args := #[s, x], argTypes := #[T, T] })
    (base : Nat) (A : Option Addr) (n k : Nat) (xs : List Value) (u : Value) (h1 : u.oneCell' = true)
    (hs : a.eval s = .slice A n k) (hown : w.ownsRow base e 1 (.slice A n k) n xs) (g : Nat) (hx : a.eval x = .slice (some ⟨g, 0, none⟩) 1 1) (hg : g = w.heap.size)
    (hn : n ≤ 100000) (hb : base ≤ w.heap.size)
    (h : ∀ (A' : Option Addr) (k' : Nat) (w' : World), w'.ownsRow base e 1 (.slice A' (n + 1) k') (n + 1) (xs ++ [u]) → w.grownBy w' (Value.slice A n k).ownBlock → Below base w w' → n + 1 ≤ k' → k' ≤ 9223372036854775807 → Stay w (.slice A' (n + 1) k') (.slice A n k) →
      K (a.put o.dst (.slice A' (n + 1) k')) w') : o.wp Tryd.prog a (w.alloc (.cells #[u] e)) K Q := by
  subst hg
  obtain ⟨i0, hi, hz0, hz1, hz2⟩ := info_parts ty.inf
  have hnews : ∀ j x, [u][j]? = some x → (w.alloc (.cells #[u] e)).cell? ((⟨w.heap.size, 0, none⟩ : Addr).add j) = some x := by
    intro j x hx
    exact (At.some2 (Blk.new w e #[u] rfl).at_) j x hx
  have hbytes : (n + 1) * bytes ≤ 140737488355328 := by
    have h2 := ty.hby
    calc (n + 1) * bytes ≤ 1000000 * 100 := Nat.mul_le_mul (by omega) h2
      _ ≤ _ := by decide
  have hone : ∀ x ∈ [u], x.oneCell' = true := by intro x hx; rw [List.mem_singleton.1 hx]; exact h1
  obtain ⟨v', w', hr, hown', hg, _⟩ := run_append_own (P := Tryd.prog) (w.alloc (.cells #[u] e)) base T o.type e i0 z 1 bytes ty.ht hi hz0 hz1 hz2 ty.hzs ty.hsz (.slice A n k) n xs (hown.alloc _)
    ⟨w.heap.size, 0, none⟩ 1 1 [u] rfl hnews hone (by unfold maxLen; omega) hbytes (by go_size)
  have hst := run_where ty o.type (hown.alloc _) (m := 1) rfl hnews hone (by omega) hr (by omega)
  unfold Oper.wp execOp
  simp only [ho, resolve, invoke, builtin, Sem.run_bind, Sem.run_pure, Result.andThen_ok, List.map_toArray, List.map_cons, List.map_nil, hs, hx, hr]
  obtain ⟨A', k', rfl, hk, hk', _⟩ := own_form hown'
  have hg' : w.grownBy w' (Value.slice A n k).ownBlock :=
    ⟨hg.os, hg.tape, hg.output, Nat.le_trans (by simp) hg.size, fun b hb hne => (hg.block b (Nat.lt_of_lt_of_le hb (by simp)) hne).trans (Below.heap_alloc w _ b hb)⟩
  refine h A' k' w' hown' hg' ?_ hk hk' ?_
  · refine ⟨hg'.os, hg'.tape, hg'.output, hg'.size, fun b hb' => hg'.block b (by omega) fun he => ?_⟩
    have := (hown.lt b he.symm).1
    omega
  · intro ad' n' k'' he
    rcases hst ad' n' k'' he with h | h
    · exact .inl h
    · exact .inr (Nat.le_trans (by simp) h)

theorem app1w {T e : TypeId} {z : Value} {bytes : Nat} (ty : STy T e z 1 bytes) {ops : Array Oper} {rest : List Oper} {o : Oper} {a : Act} {Q : Exit → Act → World → Prop} {w : World}
    (hgd : o.guard = none) (s x : Operand) (ho : o.op = .call { callee := .builtin .append, args := #[s, x], argTypes := #[T, T] })
    (base : Nat) (A : Option Addr) (n k : Nat) (xs : List Value) (u : Value) (h1 : u.oneCell' = true)
    (hs : a.eval s = .slice A n k) (hown : w.ownsRow base e 1 (.slice A n k) n xs) (g : Nat) (hx : a.eval x = .slice (some ⟨g, 0, none⟩) 1 1) (hg : g = w.heap.size)
    (hn : n ≤ 100000) (hb : base ≤ w.heap.size)
    (h : ∀ (A' : Option Addr) (k' : Nat) (w' : World), w'.ownsRow base e 1 (.slice A' (n + 1) k') (n + 1) (xs ++ [u]) → w.grownBy w' (Value.slice A n k).ownBlock → Below base w w' → n + 1 ≤ k' → k' ≤ 9223372036854775807 → Stay w (.slice A' (n + 1) k') (.slice A n k) →
      wpList Tryd.prog ops Q rest (a.put o.dst (.slice A' (n + 1) k')) w') : wpList Tryd.prog ops Q (o :: rest) a (w.alloc (.cells #[u] e)) :=
  wpList_plain hgd fun _ hK => wp_app1w ty s x ho base A n k xs u h1 hs hown g hx hg hn hb fun A' k' w' a1 a2 a3 a4 a5 a6 => hK _ _ (h A' k' w' a1 a2 a3 a4 a5 a6)

/- Contract: costs of package route. -/

def far : Int := 1048576
def cost0 (i j : Nat) : Int := if i = j then 0 else far
def cMin (x y : Int) : Int := if y < x then y else x
/-- One road laid. -/
def cstep (f : Nat → Nat → Int) (r : Rd) : Nat → Nat → Int := updI (updI f r.1.toNat r.2.1.toNat (cMin (f r.1.toNat r.2.1.toNat) r.2.2)) r.2.1.toNat r.1.toNat (cMin (f r.1.toNat r.2.1.toNat) r.2.2)
def costF (rs : List Rd) : Nat → Nat → Int := rs.foldl cstep cost0
theorem costF_take {rs : List Rd} {k : Nat} {r : Rd} (h : rs[k]? = some r) : costF (rs.take (k + 1)) = cstep (costF (rs.take k)) r := by
  unfold costF
  rw [List.take_add_one, h, List.foldl_append]; rfl
def Bd (f : Nat → Nat → Int) : Prop := ∀ i j, 0 ≤ f i j ∧ f i j ≤ far
theorem Bd.cost0 : Bd cost0 := fun i j => by unfold Go.Proofs.YtifmekijdepokaaDoor.cost0 far; split <;> omega
theorem Bd.upd {f : Nat → Nat → Int} (h : Bd f) {i j : Nat} {v : Int} (hv : 0 ≤ v ∧ v ≤ far) : Bd (updI f i j v) := fun a b => by
  unfold updI
  split
  · exact hv
  · exact h a b
theorem cMin_bd {x y : Int} (hx : 0 ≤ x ∧ x ≤ far) (hy : 0 ≤ y) : 0 ≤ cMin x y ∧ cMin x y ≤ far := by
  unfold cMin
  split <;> omega
theorem Bd.cstep {f : Nat → Nat → Int} (h : Bd f) {r : Rd} (hr : 0 ≤ r.2.2) : Bd (cstep f r) := (h.upd (cMin_bd (h _ _) hr)).upd (cMin_bd (h _ _) hr)
/-- The rows that are made first: row i with its own 0. -/
structure Rw (w0 w : World) (N : Nat) (A : Option Addr) (cap : Nat) (G : List Nat) : Prop where
  own : w.ownsRow w0.heap.size 22 1 (.slice A G.length cap) G.length (G.map fun g => .slice (some ⟨g, 0, none⟩) N N)
  row : ∀ (t g : Nat), G[t]? = some g → Blk w g 3 (arr (rowM cost0 t N)) ∧ w0.heap.size ≤ g
  inj : G.Pairwise (· < ·)
theorem Rw.lt {w0 w : World} {N cap : Nat} {A : Option Addr} {G : List Nat} (h : Rw w0 w N A cap G) : ∀ g ∈ G, g < w.heap.size := fun g hg => by
  obtain ⟨t, ht⟩ := List.getElem?_of_mem hg
  exact (h.row t g ht).1.lt
theorem far_set {N i : Nat} (hi : i < N) : (List.replicate N far).set i 0 = rowM cost0 i N := by
  apply List.ext_getElem?
  intro t
  rw [List.getElem?_set]
  by_cases ht : t < N
  · rw [rowM_get ht]
    by_cases e : i = t
    · subst e
      rw [if_pos rfl, if_pos (by simpa using ht)]
      unfold cost0; rw [if_pos rfl]
    · rw [if_neg e, List.getElem?_replicate, if_pos ht]
      unfold cost0; rw [if_neg e]
  · rw [List.getElem?_eq_none (l := rowM cost0 i N) (by rw [rowM_length]; omega)]
    by_cases e : i = t
    · rw [if_pos e, if_neg (by simp; omega)]
    · rw [if_neg e, List.getElem?_eq_none (by simpa using ht)]
theorem Rw.mx {w0 w : World} {N cap gA : Nat} {G : List Nat} (h : Rw w0 w N (some ⟨gA, 0, none⟩) cap G) (hG : G.length = N) : Mx w gA N N (fun t => G.getD t 0) cost0 := by
  have hget : ∀ t, t < N → G[t]? = some (G.getD t 0) := fun t ht => by rw [List.getD_eq_getElem?_getD, List.getElem?_eq_getElem (by omega)]; rfl
  have hA : ∃ cs, Blk w gA 22 cs := by
    rcases h.own.2 with ⟨h0, _⟩ | ⟨g, cap', cur, hv, _, hg, _⟩
    · cases h0
    · injection hv with e1 _ _
      injection e1 with e1
      injection e1 with e1
      subst e1
      exact ⟨_, hg⟩
  obtain ⟨cs, hA⟩ := hA
  refine ⟨fun t ht => ?_, fun t ht => (h.row t _ (hget t ht)).1, fun a b ha hb e => ?_, fun t ht => ((h.row t _ (hget t ht)).1.ne_ hA (by decide)), hA.lt⟩
  · obtain ⟨ad, hA1, hc⟩ := At.of_own h.own t (.slice (some ⟨G.getD t 0, 0, none⟩) N N) (by rw [List.getElem?_map, hget t ht]; rfl)
    injection hA1 with hA1
    subst hA1
    have ea : (⟨gA, 0, none⟩ : Addr).add t = ⟨gA, t, none⟩ := by simp [Addr.add]; omega
    rw [ea] at hc
    exact hc
  · have hp := List.pairwise_iff_getElem.1 h.inj
    have ga : G.getD a 0 = G[a]'(by omega) := by rw [List.getD_eq_getElem?_getD, List.getElem?_eq_getElem (by omega)]; rfl
    have gb : G.getD b 0 = G[b]'(by omega) := by rw [List.getD_eq_getElem?_getD, List.getElem?_eq_getElem (by omega)]; rfl
    rcases Nat.lt_trichotomy a b with hab | hab | hab
    · have := hp a b (by omega) (by omega) hab
      have e' : G.getD a 0 = G.getD b 0 := e
      omega
    · exact hab
    · have := hp b a (by omega) (by omega) hab
      have e' : G.getD a 0 = G.getD b 0 := e
      omega
theorem blk_grown_ints {w w' : World} {base g n : Nat} {v : Value} {xs : List Value} {cs : Array Value} (hB : Blk w g 3 cs) (hown : w.ownsRow base 22 1 v n xs) (hg : w.grownBy w' v.ownBlock) : Blk w' g 3 cs := by
  refine hB.grown hg fun he => ?_
  rcases hown.2 with ⟨h0, _⟩ | ⟨g2, cap, cur, hv, _, hg2, _⟩
  · rw [h0] at he; cases he
  · rw [hv] at he
    injection he with he
    have he' : g = g2 := he
    subst he'
    unfold Blk at hB
    rw [hB] at hg2
    injection hg2 with h1
    injection h1 with _ h1 _
    exact absurd h1 (by decide)
set_option maxRecDepth 100000 in
set_option maxHeartbeats 3200000 in
theorem rcosts_any (N : Nat) (R : Option Addr) (n c : Nat) (rs : List Rd) (w : World) (hl : rs.length = n) (hv : mapOk (N : Int) rs = true) (hR : Rds w R rs) :
    Calls Tryd.prog 57 #[mapV N R n c] w fun e w' => ∃ gA cap RR, e = .returned (.slice (some ⟨gA, 0, none⟩) N cap) ∧ N ≤ cap ∧ cap ≤ 9223372036854775807 ∧ Mx w' gA N N RR (costF rs) ∧ (w.heap.size ≤ gA ∧ ∀ i, i < N → w.heap.size ≤ RR i) ∧ Below w.heap.size w w' := by
  obtain ⟨w1, hw1⟩ : ∃ w1, w1 = w.alloc (.cells #[.int .i64 N, .slice R n c] 26) := ⟨_, rfl⟩
  have hB : Blk w1 w.heap.size 26 #[.int .i64 N, .slice R n c] := by rw [hw1]; exact Blk.new _ _ _ rfl
  have hb1 : Below w.heap.size w w1 := by rw [hw1]; exact (Below.refl _ _).alloc (Nat.le_refl _) _
  have hN8 := (mapOk_iff.1 hv).1
  have hn16 : n ≤ 16 := by have := (mapOk_iff.1 hv).2.1; omega
  have H := Lib.hid (And.intro hl (And.intro hv (And.intro hR (And.intro hB hb1))))
  obtain ⟨m1, m2, _, _⟩ := hB.at2
  have hs1 := hb1.size
  have hBl := hB.lt
  clear hl hv hR hB hb1
  go_enter Tryd.func57, Tryd.ntmps57
  go_upto_region 1 with fail
  rw [← hw1]
  clear hw1
  go_wp2_with fail
  clear m1 m2
  go_loopw [3, 9] (fun ov iv wx => ∃ (i : Nat) (A : Option Addr) (cap : Nat) (G : List Nat), i ≤ N ∧ iv = .int .i64 i ∧ G.length = i ∧ ov = .slice A i cap ∧ Rw w1 wx N A cap G ∧ Below w1.heap.size w1 wx) (fun _ iv _ => N - (intOf iv).toNat)
  case atStart => exact ⟨0, none, 0, [], Nat.zero_le _, rfl, rfl, rfl, ⟨World.ownsRow_nil _ _ _ _, fun t g h => by simp at h, List.Pairwise.nil⟩, Below.refl _ _⟩
  case round =>
    obtain ⟨i, A, cap, G, hi, rfl, hG, rfl, hRw, hbl⟩ := hrel
    obtain ⟨wo, rfl⟩ : ∃ wo : World, wo = wr := ⟨_, rfl⟩
    have HR := Lib.hid (And.intro hRw (And.intro hbl hG))
    have hos := hbl.size
    clear hRw hbl hG
    by_cases hlt : i < N
    · obtain ⟨m1, m2, _, _⟩ := (H.out.2.2.2.1.below HR.out.2.1 hBl).at2
      have hxB : Blk (wo.alloc (.cells #[.int .i64 1048576] 3)) wo.heap.size 3 (arr [1048576]) := Blk.new _ _ _ rfl
      have m3 := ((H.out.2.2.2.1.below HR.out.2.1 hBl).alloc (.cells #[.int .i64 1048576] 3)).at2.1
      have HX := Lib.hid (repeatI_any N wo.heap.size (by omega) _ hxB)
      clear hxB
      go_wp2_with fail
      refine HX.out.mono ?_
      rintro e w3 ⟨g, rfl, hg, hge, hb3⟩
      have hg0 : wo.heap.size < g := by simp at hge; omega
      have hb3' : Below wo.heap.size wo w3 := ((Below.refl _ _).alloc (Nat.le_refl _) _).trans (hb3.mono (by simp))
      have hown3 : w3.ownsRow w1.heap.size 22 1 (.slice A i cap) i (G.map fun g => .slice (some ⟨g, 0, none⟩) N N) := by
        have := own_below HR.out.1.own hb3'
        rwa [HR.out.2.2] at this
      have hw3s := hb3'.size
      have H3 := Lib.hid (And.intro hg (And.intro hb3' hown3))
      clear m1 m2 m3 hg hge hb3 hb3' hown3
      go_wp2_with (at_builtin; refine app1w sty_intss rfl _ _ rfl w1.heap.size A i cap _ (.slice (some ⟨g, 0, none⟩) N N) (by simp [Value.oneCell']) rfl H3.out.2.2 w3.heap.size rfl rfl (by omega) (by omega) ?_)
      intro A4 k4 w4 hown4 hg4 hbl4 hk41 hk42 _
      obtain ⟨gA, rfl, hgA1, hgA2⟩ := own_some hown4 (by omega)
      have hB4 : Blk w4 g 3 (arr (List.replicate N far)) := blk_grown_ints H3.out.1 H3.out.2.2 hg4
      have hrow4 : ∀ (t q : Nat), G[t]? = some q → Blk w4 q 3 (arr (rowM cost0 t N)) ∧ w1.heap.size ≤ q ∧ q < wo.heap.size := fun t q hq => by
        obtain ⟨r1, r2⟩ := HR.out.1.row t q hq
        exact ⟨blk_grown_ints (r1.below H3.out.2.1 r1.lt) H3.out.2.2 hg4, r2, r1.lt⟩
      have hne : gA ≠ g := by
        intro he
        rcases hown4.2 with ⟨h0, _⟩ | ⟨g2, cap, cur, hv, _, hg2, _⟩
        · cases h0
        · injection hv with e1 _ _
          injection e1 with e1
          injection e1 with e1
          subst e1
          rw [he] at hg2
          unfold Blk at hB4
          rw [hB4] at hg2
          injection hg2 with h1
          injection h1 with _ h1 _
          exact absurd h1 (by decide)
      have hx1 : w4.cell? ((⟨gA, 0, none⟩ : Addr).add i) = some (.slice (some ⟨g, 0, none⟩) N N) := by
        obtain ⟨ad, hA1, hc⟩ := At.of_own hown4 i (.slice (some ⟨g, 0, none⟩) N N) (by
          rw [List.getElem?_append_right (by rw [List.length_map, HR.out.2.2]; exact Nat.le_refl _), List.length_map, HR.out.2.2, Nat.sub_self]; rfl)
        injection hA1 with hA1
        subst hA1
        exact hc
      have ea : (⟨gA, 0, none⟩ : Addr).add i = ⟨gA, i, none⟩ := by simp [Addr.add]; omega
      have hx2 := hx1
      rw [ea] at hx2
      have hx3 : w4.cell? ⟨g, i, none⟩ = some (.int .i64 far) := by rw [hB4.cell, arr_get, List.getElem?_replicate, if_pos hlt]; rfl
      have hx4 := hB4.frozen i
      have hset := hB4.set_ i (.int .i64 0)
      rw [arr_set, far_set hlt] at hset
      have hnew : Rw w1 (w4.setCell ⟨g, i, none⟩ (.int .i64 0)) N (some ⟨gA, 0, none⟩) k4 (G ++ [g]) := by
        refine ⟨?_, fun t q hq => ?_, ?_⟩
        · have hln : (G ++ [g]).length = i + 1 := by rw [List.length_append, HR.out.2.2]; rfl
          rw [hln, List.map_append]
          refine ⟨hown4.1, ?_⟩
          rcases hown4.2 with ⟨h0, _⟩ | ⟨g2, cap, cur, hv, a1, a2, a3⟩
          · cases h0
          · have hg2 : g2 ≠ g := by
              injection hv with e1 _ _
              injection e1 with e1
              injection e1 with e1
              rw [← e1]; exact hne
            exact .inr ⟨g2, cap, cur, hv, a1, (Below.heap_setCell w4 ⟨g, i, none⟩ (.int .i64 0) g2 hg2).trans a2, a3⟩
        · by_cases ht : t < i
          · rw [List.getElem?_append_left (by rw [HR.out.2.2]; exact ht)] at hq
            obtain ⟨r1, r2, r3⟩ := hrow4 t q hq
            exact ⟨r1.far (by show q ≠ g; omega) _, r2⟩
          · have ht' : t = i := by
              have := (List.getElem?_eq_some_iff.1 hq).1
              rw [List.length_append, HR.out.2.2] at this
              simp at this
              omega
            subst ht'
            rw [List.getElem?_append_right (by rw [HR.out.2.2]; exact Nat.le_refl _), HR.out.2.2, Nat.sub_self] at hq
            simp at hq
            subst hq
            exact ⟨hset, by omega⟩
        · refine List.pairwise_append.2 ⟨HR.out.1.inj, List.pairwise_singleton _ _, fun x hx y hy => ?_⟩
          rw [List.mem_singleton.1 hy]
          have := HR.out.1.lt x hx
          omega
      have hbl5 : Below w1.heap.size w1 (w4.setCell ⟨g, i, none⟩ (.int .i64 0)) := ((HR.out.2.1.trans (H3.out.2.1.mono hos)).trans hbl4).setCell (by show w1.heap.size ≤ g; omega) _
      have H5 := Lib.hid (And.intro hnew hbl5)
      have l1 : (i : Int) < (i : Int) + 1 := by omega
      have l2 : (0 : Int) ≤ (i : Int) := by omega
      have l3 : (i : Int) < (N : Int) := by omega
      have hG1 : (G ++ [g]).length = i + 1 := by rw [List.length_append, HR.out.2.2]; rfl
      have HG1 := Lib.hid hG1
      clear hnew hbl5 hset hown4 hg4 hbl4 hB4 hrow4 hne hG1
      go_wp2_with fail
      go_roundw
      case rel => exact ⟨i + 1, some ⟨gA, 0, none⟩, k4, G ++ [g], by omega, by go_num, HG1.out, rfl, H5.out.1, H5.out.2⟩
      case measure => simp [intOf]; omega
    · obtain rfl : N = i := by omega
      have hRw := HR.out.1
      have hown := hRw.own
      rw [HR.out.2.2] at hown
      obtain ⟨gA, rfl, hgA1, hgA2⟩ := own_some hown (by omega)
      obtain ⟨hcap1, hcap2⟩ : N ≤ cap ∧ cap ≤ 9223372036854775807 := by
        obtain ⟨_, _, he, hcap1, hcap2, _⟩ := own_form hown
        injection he with _ _ he
        rw [← he] at hcap1 hcap2
        exact ⟨hcap1, hcap2⟩
      have hMx := hRw.mx HR.out.2.2
      obtain ⟨RR, hRR⟩ : ∃ RR : Nat → Nat, RR = fun t => G.getD t 0 := ⟨_, rfl⟩
      rw [← hRR] at hMx
      have hRge : ∀ t, t < N → w1.heap.size ≤ RR t := fun t ht => by
        rw [hRR]
        exact (hRw.row t _ (by show _ = some (G.getD t 0); rw [List.getD_eq_getElem?_getD, List.getElem?_eq_getElem (by rw [HR.out.2.2]; exact ht)]; rfl)).2
      have HM := Lib.hid (And.intro hMx (And.intro hRge (And.intro hgA1 (And.intro hcap1 hcap2))))
      have hww : Below w.heap.size w wo := H.out.2.2.2.2.trans (HR.out.2.1.mono hs1)
      have HWW := Lib.hid hww
      obtain ⟨m1, m2, _, _⟩ := (H.out.2.2.2.1.below HR.out.2.1 hBl).at2
      clear hRw hown hMx hRR hRge hww hcap1 hcap2
      go_wp2_with fail
      clear m1 m2
      go_loopw [29] (fun iv wx => ∃ k : Nat, k ≤ n ∧ iv = .int .i64 k ∧ Mx wx gA N N RR (costF (rs.take k)) ∧ Below w1.heap.size wo wx) (fun iv _ => n - (intOf iv).toNat)
      case atStart => exact ⟨0, Nat.zero_le _, rfl, HM.out.1, Below.refl _ _⟩
      case round =>
        obtain ⟨k, hk, rfl, hmx, hbl⟩ := hrel
        obtain ⟨wp, rfl⟩ : ∃ wp : World, wp = wr := ⟨_, rfl⟩
        have hps := hbl.size
        have hwp : Below w.heap.size w wp := HWW.out.trans (hbl.mono hs1)
        have HP := Lib.hid (And.intro hmx (And.intro hbl hwp))
        clear hmx hbl hwp
        by_cases hlt2 : k < n
        · obtain ⟨r, hr⟩ : ∃ r, rs[k]? = some r := ⟨_, List.getElem?_eq_getElem (by rw [H.out.1]; omega)⟩
          obtain ⟨aR, hRA, _, hcR⟩ := (H.out.2.2.1.below HP.out.2.2).some_ (by rw [H.out.1]; omega)
          subst hRA
          obtain ⟨q1, q2, q3⟩ := hcR k r hr
          obtain ⟨a, b, ea, eb, _, ⟨haN, hbN⟩, _, hc1, hc2⟩ := rd_ok H.out.2.1 hr
          have hT := costF_take hr
          obtain ⟨r1, r2, cc⟩ := r
          simp only at ea eb q1 q2 q3 hc1 hc2
          subst ea; subst eb
          unfold cstep at hT
          simp only [Int.toNat_natCast] at hT
          obtain ⟨f, hf⟩ : ∃ f, f = costF (rs.take k) := ⟨_, rfl⟩
          rw [← hf] at HP hT
          have HT := Lib.hid hT
          have haN' : a < N := by omega
          have hbN' : b < N := by omega
          obtain ⟨wf, hwf⟩ : ∃ wf, wf = wp.alloc (.cells #[.int .i64 (a : Int), .int .i64 (b : Int), .int .i64 cc] 28) := ⟨_, rfl⟩
          have hFB : Blk wf wp.heap.size 28 #[.int .i64 (a : Int), .int .i64 (b : Int), .int .i64 cc] := by rw [hwf]; exact Blk.new _ _ _ rfl
          have hbf : Below wp.heap.size wp wf := by rw [hwf]; exact (Below.refl _ _).alloc (Nat.le_refl _) _
          have hmf := HP.out.1.next hbf
          have f0 := hFB.cell 0
          have f1 := hFB.cell 1
          have f2 := hFB.cell 2
          have x1 := hmf.rows a haN'
          have x2 := hmf.rows b hbN'
          have x3 := hmf.cell haN' hbN'
          have x4 := hmf.frozen haN' b
          obtain ⟨v, hv⟩ : ∃ v, v = cMin (f a b) cc := ⟨_, rfl⟩
          have hv2 : (if cc < f a b then cc else f a b) = v := by rw [hv]; rfl
          have l1 : (k : Int) < (n : Int) := by omega
          have l2 : (0 : Int) ≤ (k : Int) := by omega
          have l3 : (a : Int) < (N : Int) := by omega
          have l4 : (0 : Int) ≤ (a : Int) := by omega
          have l5 : (b : Int) < (N : Int) := by omega
          have l6 : (0 : Int) ≤ (b : Int) := by omega
          rw [← hv] at HT
          have HF := Lib.hid (And.intro hFB (And.intro hmf hbf))
          clear hcR hr hT hFB hbf hmf hf hv
          generalize hfab : f a b = fab at *
          clear hfab
          go_upto_region 11 with fail
          rw [← hwf]
          clear hwf q1 q2 q3
          refine wp_region_drew_tail 20 (by kernel_rfl) (by kernel_rfl) ?_
          simp only [List.take_succ_cons, List.take_zero, List.drop_succ_cons, List.drop_zero]
          repeat (go_big_quiet_step (fail))
          refine wpQuiet_nil ?_
          rintro _ ⟨nq, rfl⟩
          go_upto_region 12 with fail
          have hRa := HM.out.2.1 a haN'
          have hRb := HM.out.2.1 b hbN'
          obtain ⟨wg, hwg⟩ : ∃ wg, wg = (wf.drewN nq).setCell ⟨RR a, b, none⟩ (.int .i64 v) := ⟨_, rfl⟩
          have hmg : Mx wg gA N N RR (updI f a b v) := by rw [hwg]; exact (HF.out.2.1.drewN nq).set haN' b v
          have hbg : Below w1.heap.size wo wg := by rw [hwg]; exact (below_drewN (HP.out.2.1.trans (HF.out.2.2.mono (by omega))) nq).setCell hRa _
          have hFg : Blk wg wp.heap.size 28 #[.int .i64 (a : Int), .int .i64 (b : Int), .int .i64 cc] := by
            rw [hwg]
            exact (HF.out.1.drewN nq).far (by have := (HP.out.1.cells a haN').lt; show wp.heap.size ≠ RR a; omega) _
          rw [← hwg]
          clear hwg f0 f1 f2 x1 x2 x3 x4 hv2
          have f0 := hFg.cell 0
          have f1 := hFg.cell 1
          have x1 := hmg.rows a haN'
          have x2 := hmg.rows b hbN'
          have x3 := hmg.cell haN' hbN'
          have e3 : updI f a b v a b = v := by unfold updI; rw [if_pos ⟨rfl, rfl⟩]
          rw [e3] at x3
          have x5 := hmg.cell hbN' haN'
          have x4 := hmg.frozen hbN' a
          have HG := Lib.hid (And.intro hmg hbg)
          clear hmg hbg hFg e3
          refine wp_region_drew_tail 17 (by kernel_rfl) (by kernel_rfl) ?_
          simp only [List.take_succ_cons, List.take_zero, List.drop_succ_cons, List.drop_zero]
          repeat (go_big_quiet_step (fail))
          refine wpQuiet_nil ?_
          rintro _ ⟨nq2, rfl⟩
          have hres := (HG.out.1.drewN nq2).set hbN' a v
          rw [← HT.out] at hres
          have HE := Lib.hid (And.intro hres ((below_drewN HG.out.2 nq2).setCell (p := ⟨RR b, a, none⟩) hRb (.int .i64 v)))
          clear hres
          go_wp2_with fail
          go_roundw
          case rel => exact ⟨k + 1, by omega, by go_num, HE.out.1, HE.out.2⟩
          case measure => simp [intOf]; omega
        · obtain rfl : n = k := by omega
          have hT : rs.take n = rs := List.take_of_length_le (by rw [H.out.1]; exact Nat.le_refl _)
          have HT := Lib.hid hT
          clear hT
          go_wp2_with fail
          go_ret
          refine ⟨gA, cap, RR, rfl, HM.out.2.2.2.1, HM.out.2.2.2.2, by rw [← HT.out]; exact HP.out.1, ⟨by have := HM.out.2.2.1; omega, fun t ht => by have := HM.out.2.1 t ht; omega⟩, HP.out.2.2⟩

/- Contract: distances of package route. -/

def fwS (f : Nat → Nat → Int) (k i j : Nat) : Nat → Nat → Int := updI f i j (cMin (f i j) (f i k + f k j))
def fwJ (f : Nat → Nat → Int) (k i : Nat) : Nat → Nat → Nat → Int
  | 0 => f
  | j + 1 => fwS (fwJ f k i j) k i j
def fwI (f : Nat → Nat → Int) (N k : Nat) : Nat → Nat → Nat → Int
  | 0 => f
  | i + 1 => fwJ (fwI f N k i) k i N
def fwK (f : Nat → Nat → Int) (N : Nat) : Nat → Nat → Nat → Int
  | 0 => f
  | k + 1 => fwI (fwK f N k) N k N
/-- All distances. -/
def distF (rs : List Rd) (N : Nat) : Nat → Nat → Int := fwK (costF rs) N N
theorem Bd.fwS {f : Nat → Nat → Int} (h : Bd f) (k i j : Nat) : Bd (fwS f k i j) := h.upd (cMin_bd (h _ _) (by have := h i k; have := h k j; omega))
theorem Bd.fwJ {f : Nat → Nat → Int} (h : Bd f) (k i : Nat) : ∀ j, Bd (fwJ f k i j)
  | 0 => h
  | j + 1 => (Bd.fwJ h k i j).fwS k i j
theorem Bd.fwI {f : Nat → Nat → Int} (h : Bd f) (N k : Nat) : ∀ i, Bd (fwI f N k i)
  | 0 => h
  | i + 1 => (Bd.fwI h N k i).fwJ k i N
theorem Bd.fwK {f : Nat → Nat → Int} (h : Bd f) (N : Nat) : ∀ k, Bd (fwK f N k)
  | 0 => h
  | k + 1 => (Bd.fwK h N k).fwI N k N
theorem Bd.costF {N : Int} {rs : List Rd} (hv : mapOk N rs = true) : Bd (costF rs) := by
  have h3 := (mapOk_iff.1 hv).2.2
  unfold Go.Proofs.YtifmekijdepokaaDoor.costF
  have : ∀ (l : List Rd) (f : Nat → Nat → Int), (∀ r ∈ l, badR N r = false) → Bd f → Bd (l.foldl Go.Proofs.YtifmekijdepokaaDoor.cstep f) := by
    intro l
    induction l with
    | nil => exact fun f _ h => h
    | cons r l ih => exact fun f hl h => ih _ (fun x hx => hl x (List.mem_cons_of_mem _ hx)) (h.cstep (by have := badR_no.1 (hl r (List.mem_cons_self ..)); omega))
  exact this rs _ h3 Bd.cost0
theorem Bd.distF {N : Nat} {rs : List Rd} (hv : mapOk (N : Int) rs = true) : Bd (distF rs N) := (Bd.costF hv).fwK N N
theorem w64f {x y : Int} (hx : 0 ≤ x ∧ x ≤ far) (hy : 0 ≤ y ∧ y ≤ far) : wrap64 (x + y) = x + y := by unfold far at *; unfold wrap64; omega
/-- What distances leaves. -/
def DistPost (w : World) (N : Nat) (f : Nat → Nat → Int) (e : Ending) (w' : World) : Prop :=
  ∃ gA cap RR, e = .returned (.slice (some ⟨gA, 0, none⟩) N cap) ∧ N ≤ cap ∧ cap ≤ 9223372036854775807 ∧ Mx w' gA N N RR f ∧ (w.heap.size ≤ gA ∧ ∀ i, i < N → w.heap.size ≤ RR i) ∧ Below w.heap.size w w'
set_option maxRecDepth 100000 in
set_option maxHeartbeats 3200000 in
theorem rdists_any (N : Nat) (R : Option Addr) (n c : Nat) (rs : List Rd) (w : World) (hl : rs.length = n) (hv : mapOk (N : Int) rs = true) (hR : Rds w R rs) :
    Calls Tryd.prog 29 #[mapV N R n c] w (DistPost w N (distF rs N)) := by
  obtain ⟨w1, hw1⟩ : ∃ w1, w1 = w.alloc (.cells #[.int .i64 N, .slice R n c] 26) := ⟨_, rfl⟩
  have hB : Blk w1 w.heap.size 26 #[.int .i64 N, .slice R n c] := by rw [hw1]; exact Blk.new _ _ _ rfl
  have hb1 : Below w.heap.size w w1 := by rw [hw1]; exact (Below.refl _ _).alloc (Nat.le_refl _) _
  have hN8 := (mapOk_iff.1 hv).1
  have HC := Lib.hid (rcosts_any N R n c rs w1 hl hv (hR.below hb1))
  have HBD := Lib.hid (Bd.costF hv)
  have H := Lib.hid hb1
  obtain ⟨m1, m2, _, _⟩ := hB.at2
  have hs1 := hb1.size
  clear hl hv hR hB hb1
  go_enter Tryd.func29, Tryd.ntmps29
  go_upto_region 1 with fail
  rw [← hw1]
  clear hw1
  go_wp2_with fail
  refine HC.out.mono ?_
  rintro e w2 ⟨gA, cap, RR, rfl, hc1, hc2, hMx, ⟨hg1, hg2⟩, hb2⟩
  have HM := Lib.hid (And.intro hMx (And.intro hg1 (And.intro hg2 (And.intro hc1 (And.intro hc2 (H.out.trans (hb2.mono hs1)))))))
  clear hc1 hc2 hMx hg1 hg2 hb2 m1 m2 HC
  go_wp2_with fail
  go_loopw [11] (fun iv wx => ∃ k : Nat, k ≤ N ∧ iv = .int .i64 k ∧ Mx wx gA N N RR (fwK (costF rs) N k) ∧ Below w.heap.size w wx) (fun iv _ => N - (intOf iv).toNat)
  case atStart => exact ⟨0, Nat.zero_le _, rfl, HM.out.1, HM.out.2.2.2.2.2⟩
  case round =>
    obtain ⟨k, hk, rfl, hmx, hbl⟩ := hrel
    obtain ⟨wo, rfl⟩ : ∃ wo : World, wo = wr := ⟨_, rfl⟩
    have HR := Lib.hid (And.intro hmx hbl)
    clear hmx hbl
    by_cases hkN : k < N
    · obtain ⟨fk, hfk⟩ : ∃ f, f = fwK (costF rs) N k := ⟨_, rfl⟩
      have hbk : Bd fk := by rw [hfk]; exact HBD.out.fwK N k
      have hnx : fwK (costF rs) N (k + 1) = fwI fk N k N := by rw [hfk]; rfl
      rw [← hfk] at HR
      have HK := Lib.hid (And.intro hbk hnx)
      clear hfk hbk hnx
      go_wp2_with fail
      go_loopw [16] (fun iv wx => ∃ i : Nat, i ≤ N ∧ iv = .int .i64 i ∧ Mx wx gA N N RR (fwI fk N k i) ∧ Below w.heap.size w wx) (fun iv _ => N - (intOf iv).toNat)
      case atStart => exact ⟨0, Nat.zero_le _, rfl, HR.out.1, HR.out.2⟩
      case round =>
        obtain ⟨i, hi, rfl, hmx, hbl⟩ := hrel
        obtain ⟨wi, rfl⟩ : ∃ wo : World, wo = wr := ⟨_, rfl⟩
        have HI := Lib.hid (And.intro hmx hbl)
        clear hmx hbl
        by_cases hiN : i < N
        · obtain ⟨fi, hfi⟩ : ∃ f, f = fwI fk N k i := ⟨_, rfl⟩
          have hbi : Bd fi := by rw [hfi]; exact HK.out.1.fwI N k i
          have hnx : fwI fk N k (i + 1) = fwJ fi k i N := by rw [hfi]; rfl
          rw [← hfi] at HI
          have HII := Lib.hid (And.intro hbi hnx)
          clear hfi hbi hnx
          go_wp2_with fail
          go_loopw [21] (fun iv wx => ∃ j : Nat, j ≤ N ∧ iv = .int .i64 j ∧ Mx wx gA N N RR (fwJ fi k i j) ∧ Below w.heap.size w wx) (fun iv _ => N - (intOf iv).toNat)
          case atStart => exact ⟨0, Nat.zero_le _, rfl, HI.out.1, HI.out.2⟩
          case round =>
            obtain ⟨j, hj, rfl, hmx, hbl⟩ := hrel
            obtain ⟨wj, rfl⟩ : ∃ wo : World, wo = wr := ⟨_, rfl⟩
            have HJ := Lib.hid (And.intro hmx hbl)
            by_cases hjN : j < N
            · obtain ⟨fj, hfj⟩ : ∃ f, f = fwJ fi k i j := ⟨_, rfl⟩
              have hbj : Bd fj := by rw [hfj]; exact HII.out.1.fwJ k i j
              have hnx : fwJ fi k i (j + 1) = updI fj i j (cMin (fj i j) (fj i k + fj k j)) := by rw [hfj]; rfl
              rw [← hfj] at HJ hmx
              have x1 := hmx.rows i hiN
              have x2 := hmx.rows k hkN
              have x3 := hmx.cell hiN hjN
              have x4 := hmx.cell hiN hkN
              have x5 := hmx.cell hkN hjN
              have x6 := hmx.frozen hiN j
              obtain ⟨v, hv⟩ : ∃ v, v = cMin (fj i j) (fj i k + fj k j) := ⟨_, rfl⟩
              have hv2 : (if fj i k + fj k j < fj i j then fj i k + fj k j else fj i j) = v := by rw [hv]; rfl
              have hw := w64f (hbj i k) (hbj k j)
              rw [← hv] at hnx
              have HNX := Lib.hid hnx
              have l1 : (i : Int) < (N : Int) := by omega
              have l2 : (0 : Int) ≤ (i : Int) := by omega
              have l3 : (j : Int) < (N : Int) := by omega
              have l4 : (0 : Int) ≤ (j : Int) := by omega
              have l5 : (k : Int) < (N : Int) := by omega
              have l6 : (0 : Int) ≤ (k : Int) := by omega
              have hRi := HM.out.2.2.1 i hiN
              clear hmx hbl hfj hbj hnx hv
              generalize fj i j = y1 at *
              generalize fj i k = y2 at *
              generalize fj k j = y3 at *
              go_upto_region 11 with fail
              refine wp_region_drew_tail 29 (by kernel_rfl) (by kernel_rfl) ?_
              simp only [List.take_succ_cons, List.take_zero, List.drop_succ_cons, List.drop_zero]
              repeat (go_big_quiet_step (fail))
              refine wpQuiet_nil ?_
              rintro _ ⟨nq, rfl⟩
              have hres := (HJ.out.1.drewN nq).set hiN j v
              rw [← HNX.out] at hres
              have HE := Lib.hid (And.intro hres ((below_drewN HJ.out.2 nq).setCell (p := ⟨RR i, j, none⟩) (by show w.heap.size ≤ RR i; omega) (.int .i64 v)))
              clear hres
              go_wp2_with fail
              go_roundw
              case rel => exact ⟨j + 1, by omega, by go_num, HE.out.1, HE.out.2⟩
              case measure => simp [intOf]; omega
            · obtain rfl : N = j := by omega
              clear hmx hbl
              rw [← HII.out.2] at HJ
              go_wp2_with fail
              go_roundw
              case rel => exact ⟨i + 1, by omega, by go_num, HJ.out.1, HJ.out.2⟩
              case measure => simp [intOf]; omega
        · obtain rfl : N = i := by omega
          rw [← HK.out.2] at HI
          go_wp2_with fail
          go_roundw
          case rel => exact ⟨k + 1, by omega, by go_num, HI.out.1, HI.out.2⟩
          case measure => simp [intOf]; omega
    · obtain rfl : N = k := by omega
      go_wp2_with fail
      go_ret
      exact ⟨gA, cap, RR, rfl, HM.out.2.2.2.1, HM.out.2.2.2.2.1, HR.out.1, ⟨by have := HM.out.2.1; omega, fun t ht => by have := HM.out.2.2.1 t ht; omega⟩, HR.out.2⟩
end Go.Proofs.YtifmekijdepokaaDoor
