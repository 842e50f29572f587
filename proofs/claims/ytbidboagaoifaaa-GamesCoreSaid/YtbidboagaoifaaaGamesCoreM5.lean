/- Laws and contracts that the proof of GamesCore uses, part 5. -/
import Derived.Test.YtbidboagaoifaaaGamesCoreM4
import Derived.Test.YtbidboagaoifaaaGamesCoreM1
namespace Go.Proofs.Ytbidboagaoifaaa
open Go.RowKit

/- What Core and Refute answer, for every costs, in one form. -/

def coreQ (c : List Int) : List Rat := if valC c then (coreF c).getD [] else []
def coE (c : List Int) : Int := if valC c then (if (coreF c).isSome then 0 else 4) else 2
def refQ (c : List Int) : List Pt := if valC c then (if (coreF c).isSome then [] else (refF c).getD []) else []
def rfE (c : List Int) : Int := if valC c then (if (coreF c).isSome then 4 else 0) else 2
theorem core2_any (A0 : Option Addr) (N cap0 : Nat) (c : List Int) (w : World) (hl : c.length = N) (hN : N ≤ 9223372036854775807) (hc : Ints w A0 c) :
    Calls Try.prog 47 #[.slice A0 N cap0] w fun e w' => ∃ A' k c', e = .returned (.tuple #[.slice A' k c', .int .i64 (coE c)]) ∧ (coreQ c).length = k ∧ Fracs w' A' (coreQ c) ∧ k ≤ c' ∧ c' ≤ 9223372036854775807 ∧ Below w.heap.size w w' := by
  have hnil : ∀ w' : World, Fracs w' none [] := fun w' i v hv => by simp [fcells] at hv
  refine (core_any A0 N cap0 c w hl hN hc).mono ?_
  rintro e w' ⟨hb, ⟨hv, rfl⟩ | ⟨hv, hn, rfl⟩ | ⟨hv, qs, A', c', hq, rfl, h1, h2, h3, h4⟩⟩
  · have e1 : coreQ c = [] := by simp [coreQ, hv]
    exact ⟨none, 0, 0, by simp [coE, hv], by simp [e1], by rw [e1]; exact hnil w', by omega, by omega, hb⟩
  · have e1 : coreQ c = [] := by simp [coreQ, hv, hn]
    exact ⟨none, 0, 0, by simp [coE, hv, hn], by simp [e1], by rw [e1]; exact hnil w', by omega, by omega, hb⟩
  · have e1 : coreQ c = qs := by simp [coreQ, hv, hq]
    exact ⟨A', plr c, c', by simp [coE, hv, hq], by rw [e1, h1], by rw [e1]; exact h2, h3, h4, hb⟩
theorem refute2_any (A0 : Option Addr) (N cap0 : Nat) (c : List Int) (w : World) (hl : c.length = N) (hN : N ≤ 9223372036854775807) (hc : Ints w A0 c) :
    Calls Try.prog 49 #[.slice A0 N cap0] w fun e w' => ∃ A' k c', e = .returned (.tuple #[.slice A' k c', .int .i64 (rfE c)]) ∧ (refQ c).length = k ∧ Tps w' A' (refQ c) ∧ k ≤ c' ∧ c' ≤ 9223372036854775807 ∧ Below w.heap.size w w' := by
  have hnil : ∀ w' : World, Tps w' none [] := fun w' i v hv => by simp [tcells] at hv
  refine (refute_any A0 N cap0 c w hl hN hc).mono ?_
  rintro e w' ⟨hb, ⟨hv, rfl⟩ | ⟨hv, hs, rfl⟩ | ⟨hv, hn, hr, rfl⟩ | ⟨hv, hn, ts, A', k, c', hq, rfl, h1, h2, h3, h4⟩⟩
  · have e1 : refQ c = [] := by simp [refQ, hv]
    exact ⟨none, 0, 0, by simp [rfE, hv], by simp [e1], by rw [e1]; exact hnil w', by omega, by omega, hb⟩
  · have e1 : refQ c = [] := by simp [refQ, hv, hs]
    exact ⟨none, 0, 0, by simp [rfE, hv, hs], by simp [e1], by rw [e1]; exact hnil w', by omega, by omega, hb⟩
  · have e1 : refQ c = [] := by simp [refQ, hv, hn, hr]
    exact ⟨none, 0, 0, by simp [rfE, hv, hn], by simp [e1], by rw [e1]; exact hnil w', by omega, by omega, hb⟩
  · have e1 : refQ c = ts := by simp [refQ, hv, hn, hq]
    exact ⟨A', k, c', by simp [rfE, hv, hn], by rw [e1, h1], by rw [e1]; exact h2, h3, h4, hb⟩
theorem coE_take (c : List Int) : coE (c.take 18) = coE c := by
  cases hv : valC c
  · simp [coE, hv, valC_take]
  · rw [take18 (by have := (valC_iff.1 hv).1; omega)]
theorem rfE_take (c : List Int) : rfE (c.take 18) = rfE c := by
  cases hv : valC c
  · simp [rfE, hv, valC_take]
  · rw [take18 (by have := (valC_iff.1 hv).1; omega)]
theorem coreQ_take (c : List Int) : coreQ (c.take 18) = coreQ c := by
  cases hv : valC c
  · simp [coreQ, hv, valC_take]
  · rw [take18 (by have := (valC_iff.1 hv).1; omega)]
theorem refQ_take (c : List Int) : refQ (c.take 18) = refQ c := by
  cases hv : valC c
  · simp [refQ, hv, valC_take]
  · rw [take18 (by have := (valC_iff.1 hv).1; omega)]
theorem crB_bad {c : List Int} {ts : List Pt} (h : valC c = false) : crB c ts = false := by simp [crB, h]
theorem crB_take18 (c : List Int) (ts : List Pt) : crB (c.take 18) ts = crB c ts := by
  cases hv : valC c
  · rw [crB_bad hv, crB_bad (by rw [valC_take]; exact hv)]
  · rw [take18 (by have := (valC_iff.1 hv).1; omega)]
theorem ccB_take18 (c : List Int) (ps : List (Int × Int)) : ccB (c.take 18) ps = ccB c ps := by
  cases hv : valC c
  · simp [ccB, hv, valC_take]
  · rw [take18 (by have := (valC_iff.1 hv).1; omega)]
theorem ccB_core {c : List Int} {ps : List (Int × Int)} (h : ccB c ps = true) : (coreF c).isSome = true := by
  unfold ccB at h
  split at h
  · rename_i hv
    have h2 : payB (plr c) ps = true := by
      unfold coreI sumB at h
      rw [Bool.and_eq_true, Bool.and_eq_true] at h
      exact h.1.1
    obtain ⟨qs, rfl, h3, h4⟩ := payB_rats h2
    exact (core_iff hv).2 ⟨_, (ccB_in hv rfl h3 h4).1 (by unfold ccB; rw [hv, if_pos rfl]; exact h)⟩
  · cases h
theorem crB_core {c : List Int} {ts : List Pt} (hv : valC c = true) (h : crB c ts = true) : (coreF c).isSome = false := by
  cases hs : (coreF c).isSome
  · rfl
  · obtain ⟨x, hx⟩ := (core_iff hv).1 hs
    exact absurd hx fun hx => crB_no h hx
/-- The facts when payments are found. -/
theorem core_facts {c : List Int} (hv : valC c = true) (hs : (coreF c).isSome = true) : coE c = 0 ∧ rfE c = 4 ∧ refQ c = [] ∧ ccB c ((coreQ c).map pr) = true ∧ (coreQ c).length = plr c ∧ ∀ p ∈ (coreQ c).map pr, (-9223372036854775808 ≤ p.1 ∧ p.1 ≤ 9223372036854775807) ∧ -9223372036854775808 ≤ p.2 ∧ p.2 ≤ 9223372036854775807 := by
  obtain ⟨qs, hq⟩ := Option.isSome_iff_exists.1 hs
  have e1 : coreQ c = qs := by simp [coreQ, hv, hq]
  obtain ⟨h1, h2⟩ := core_cc hq
  rw [e1]
  refine ⟨by simp [coE, hv, hs], by simp [rfE, hv, hs], by simp [refQ, hv, hs], h1, h2, fun p hp => ?_⟩
  have h3 : payB (plr c) (qs.map pr) = true := by
    unfold ccB coreI sumB at h1
    rw [hv, if_pos rfl, Bool.and_eq_true, Bool.and_eq_true] at h1
    exact h1.1.1
  unfold payB at h3
  rw [Bool.and_eq_true, List.all_eq_true] at h3
  have := scB_iff.1 (h3.1 p hp)
  omega
/-- .. and when not. -/
theorem ref_facts {c : List Int} (hv : valC c = true) (hs : (coreF c).isSome = false) : coE c = 4 ∧ rfE c = 0 ∧ coreQ c = [] ∧ crB c (refQ c) = true ∧ (refQ c).length ≤ 18 ∧ ∀ t ∈ refQ c, (-9223372036854775808 ≤ t.1 ∧ t.1 ≤ 9223372036854775807) ∧ (-9223372036854775808 ≤ t.2.1 ∧ t.2.1 ≤ 9223372036854775807) ∧ -9223372036854775808 ≤ t.2.2 ∧ t.2.2 ≤ 9223372036854775807 := by
  have hn : coreF c = none := by cases h : coreF c with
    | none => rfl
    | some q => rw [h] at hs; cases hs
  obtain ⟨ts, ht⟩ := ref_some hv hn
  have e1 : refQ c = ts := by simp [refQ, hv, hn, ht]
  have h1 := ref_cr ht
  have hpw := valC_pow hv
  rw [e1]
  have h2 := h1
  unfold crB refI at h2
  rw [hv, if_pos rfl, Bool.and_eq_true, Bool.and_eq_true, Bool.and_eq_true, decide_eq_true_eq] at h2
  have h16 : 2 ^ plr c ≤ 16 := Nat.pow_le_pow_right (show 0 < 2 by decide) hpw.2.2
  refine ⟨by simp [coE, hv, hn], by simp [rfE, hv, hn], by simp [coreQ, hv, hn], h1, by omega, fun t ht' => ?_⟩
  obtain ⟨j, hj, rfl⟩ := List.getElem_of_mem ht'
  obtain ⟨g1, g2, g3, g4, _⟩ := goodI_iff.1 (goodTo_at h2.1.1.2 hj)
  have e2 : pt ts j = ts[j] := pt_get (List.getElem?_eq_getElem hj)
  rw [e2] at g1 g2 g3 g4
  have := scB_iff.1 g1
  have e3 : ((2 ^ plr c : Nat) : Int) ≤ 16 := by omega
  rw [Int.natCast_pow] at e3
  have e4 : ts[j].1 < 16 := by
    have : ((2 ^ plr c : Nat) : Int) = (2 : Int) ^ plr c := by simp
    omega
  omega

/- Contract: own of the law's package. -/

theorem info_rpart : (Try.prog.info? 85).map (fun i => (i.zero, i.size, i.bytes)) = some (some (.agg #[.int .i64 0, .int .i64 0, .int .i64 0]), 3, 24) := by kernel_rfl
theorem sty_rpart : STy 56 85 (.agg #[.int .i64 0, .int .i64 0, .int .i64 0]) 3 24 := ⟨Try.underlying56, info_rpart, rfl, by decide, by decide⟩

set_option maxRecDepth 100000 in
set_option maxHeartbeats 800000 in
theorem lown_any (A : Option Addr) (n cap : Nat) (ts : List Pt) (w : World) (hl : ts.length = n) (hm : n ≤ 18) (h : Tps w A ts) :
    Calls Try.prog 50 #[.slice A n cap] w fun e w' => ∃ A' c, e = .returned (.slice A' n c) ∧ Tps w' A' ts ∧ Below w.heap.size w w' := by
  have hI := fun (hp : 0 < ts.length) => h.some_ hp
  have H := Lib.hid (And.intro hl hI)
  clear hl h hI
  go_enter Try.func50, Try.ntmps50
  go_wp2_with fail
  go_loopw [3, 8] (fun ov iv wr => ∃ (k : Nat) (B : Option Addr) (bc : Nat), k ≤ n ∧ iv = .int .i64 k ∧ ov = .slice B k bc ∧ wr.ownsRow w.heap.size 85 3 (.slice B k bc) k (tcells (ts.take k)) ∧ Below w.heap.size w wr) (fun _ iv _ => n - (intOf iv).toNat)
  case atStart => exact ⟨0, none, 0, Nat.zero_le _, rfl, rfl, World.ownsRow_nil _ _ _ _, Below.refl _ _⟩
  case round =>
    obtain ⟨k, B, bc, hk, rfl, rfl, hown, hbl⟩ := hrel
    have HR := Lib.hid (And.intro hown hbl)
    have hws := hbl.size
    clear hown
    by_cases hlt : k < n
    · obtain ⟨hl, hI⟩ := H.out
      obtain ⟨ad, rfl, _, hc⟩ := hI (by omega)
      obtain ⟨t, ht⟩ : ∃ t, ts[k]? = some t := ⟨_, List.getElem?_eq_getElem (by omega)⟩
      obtain ⟨g1, g2, g3⟩ := hc k t ht
      have c1 := (hbl.cell (lt_of_cell g1)).trans g1
      have c2 := (hbl.cell (lt_of_cell g2)).trans g2
      have c3 := (hbl.cell (lt_of_cell g3)).trans g3
      obtain ⟨s, a, b⟩ := t
      simp only at c1 c2 c3
      have HNEW : Hid (tcells (ts.take (k + 1)) = tcells (ts.take k) ++ [.int .i64 s, .int .i64 a, .int .i64 b]) := Lib.hid (by
        rw [List.take_add_one, ht]
        exact tcells_snoc _ _)
      clear hl hI hc ht g1 g2 g3 hbl
      go_wp2_with (at_builtin; refine app1h sty_rpart rfl _ _ rfl w.heap.size B k bc _ #[.int .i64 s, .int .i64 a, .int .i64 b] rfl (by simp [Value.oneCell']) rfl (HR.out.1.alloc _) (wr.heap.size + 1) rfl (by simp) (by omega) (by go_size) ?_)
      intro A4 k4 w4 hown4 _ hbl4 hk41 hk42
      rw [← HNEW.out] at hown4
      have HR4 := Lib.hid (And.intro hown4 ((HR.out.2.alloc hws _).trans hbl4))
      clear hown4 hbl4
      go_wp2_with fail
      go_roundw
      case rel => exact ⟨k + 1, A4, k4, by omega, by go_num, rfl, HR4.out.1, HR4.out.2⟩
      case measure => simp [intOf]; omega
    · obtain rfl : n = k := by omega
      have HE : Hid (ts.take n = ts) := Lib.hid (List.take_of_length_le (by rw [H.out.1]; omega))
      clear hbl
      go_wp2_with fail
      go_ret
      exact ⟨B, bc, rfl, by have := At.of_own HR.out.1; rw [HE.out] at this; exact this, HR.out.2⟩

/- Contract: Refutes of package corrodyref07, of valid costs. -/

/-- The cells of the array of the sets that were met. -/
def metArr (S : List Int) : Array Value := ((List.range 16).map fun (i : Nat) => Value.bool (decide ((i : Int) ∈ S))).toArray
theorem metArr_nil : metArr [] = #[.bool false, .bool false, .bool false, .bool false, .bool false, .bool false, .bool false, .bool false, .bool false, .bool false, .bool false, .bool false, .bool false, .bool false, .bool false, .bool false] := by rfl
theorem metArr_get {S : List Int} {i : Nat} (h : i < 16) : (metArr S)[i]? = some (.bool (decide ((i : Int) ∈ S))) := by simp [metArr, h]
theorem metArr_set {S : List Int} {i : Nat} (h : i < 16) : (metArr S).setIfInBounds i (.bool true) = metArr (S ++ [(i : Int)]) := by
  apply Array.ext'
  unfold metArr
  simp only [Array.toList_setIfInBounds]
  apply List.ext_getElem?
  intro j
  rw [List.getElem?_set]
  by_cases hij : i = j
  · subst hij
    simp [h]
  · rw [if_neg hij]
    simp only [List.getElem?_map]
    by_cases hj : j < 16
    · simp only [List.getElem?_range hj, Option.map_some]
      congr 2
      rw [decide_eq_decide]
      simp only [List.mem_append, List.mem_singleton]
      constructor
      · exact .inl
      · rintro (h | h)
        · exact h
        · omega
    · simp [hj]
theorem share_rat {a b : Int} (h1 : 1 ≤ b) (h2 : b ≤ 12) (hg : Int.gcd a b = 1) : ∃ q : Rat, q.num = a ∧ (q.den : Int) = b ∧ q = Rat.divInt (a * (SD / b)) SD := by
  obtain ⟨q, h3, h4⟩ := lowest_rat (a := a) (b := b) (by omega) hg
  obtain ⟨k, hk, e, hk1⟩ := ptN_eq h1 h2
  refine ⟨q, h3, h4, ?_⟩
  rw [e]
  conv => rhs; rw [hk]
  rw [Rat.divInt_mul_right (by omega), ← h3, ← h4, Rat.num_divInt_den]
theorem share_mul (n z : Int) : Rat.divInt n SD * (z : Rat) = Rat.divInt (n * z) SD := by
  rw [Rat.divInt_eq_div, Rat.divInt_eq_div, Rat.intCast_mul, Rat.div_def, Rat.div_def, Rat.mul_assoc, Rat.mul_comm ((SD : Rat)⁻¹), Rat.mul_assoc]
theorem sd_bd {T : Int} {m : Int} (h1 : -m ≤ T) (h2 : T ≤ m) : ((Rat.divInt T SD).den : Int) ≤ 27720 ∧ -m ≤ (Rat.divInt T SD).num ∧ (Rat.divInt T SD).num ≤ m :=
  ⟨divInt_den_le (a := T) (b := SD) (by decide), divInt_bd (a := T) (b := SD) (by decide) h1 h2⟩
theorem sd_prods {x y : Rat} (hx : (x.den : Int) ≤ 27720 ∧ -50000000000000 ≤ x.num ∧ x.num ≤ 50000000000000) (hy : (y.den : Int) ≤ 27720 ∧ -50000000000000 ≤ y.num ∧ y.num ≤ 50000000000000) :
    -4000000000000000000 ≤ x.num * y.den ∧ x.num * y.den ≤ 4000000000000000000 ∧ -4000000000000000000 ≤ y.num * x.den ∧ y.num * x.den ≤ 4000000000000000000 ∧ (x.den : Int) * y.den ≤ 4000000000000000000 := by
  have dx := den_pos x
  have dy := den_pos y
  have a1 := mul_bd hx.2.1 hx.2.2 (by omega) hy.1
  have a2 := mul_bd hy.2.1 hy.2.2 (by omega) hx.1
  have a3 := mul_bd (a := (x.den : Int)) (b := (y.den : Int)) (m := 27720) (by omega) hx.1 (by omega) hy.1
  omega
theorem sd_lt (T x : Int) : Rat.divInt T SD < (x : Rat) ↔ T < x * 27720 := by
  have h0 : (0 : Rat) < (SD : Rat) := by decide +kernel
  have hne : (SD : Rat) ≠ 0 := by decide +kernel
  rw [Rat.divInt_eq_div]
  have e : (x : Rat) = ((x * SD : Int) : Rat) / (SD : Rat) := by rw [Rat.intCast_mul, Rat.mul_div_cancel hne]
  rw [e, Rat.div_def, Rat.div_def, Rat.mul_lt_mul_right (Rat.inv_pos.2 h0), Rat.intCast_lt_intCast]
  exact Iff.rfl
theorem sd_one (T : Int) : Rat.divInt T SD = 1 ↔ T = 27720 := by
  have hne : (SD : Rat) ≠ 0 := by decide +kernel
  constructor
  · intro h
    rw [Rat.divInt_eq_div] at h
    have h2 : ((T : Int) : Rat) = (SD : Rat) := by
      have := congrArg (fun q => q * (SD : Rat)) h
      simp only [Rat.div_mul_cancel hne, Rat.one_mul] at this
      exact this
    rw [Rat.intCast_inj] at h2
    exact h2
  · rintro rfl
    decide +kernel

theorem goodR_iff {N : Nat} {pv : List Int} {t : Pt} : goodR N pv t = true ↔ lowB t.2.1 t.2.2 = true ∧ 1 ≤ t.2.1 ∧ t.2.2 ≤ 12 ∧ t.2.1 ≤ t.2.2 ∧ 1 ≤ t.1 ∧ t.1 < N ∧ t.1 ∉ pv := by
  unfold goodR
  rw [Bool.and_eq_true, decide_eq_true_eq, goodI_iff, scB_iff]
  simp only [lowB, Bool.and_eq_true, decide_eq_true_eq, beq_iff_eq]
  constructor
  · rintro ⟨⟨⟨h1, h2, h3, h4, h5⟩, h6, h7, h8, h9⟩, h10⟩
    exact ⟨⟨⟨h1, by omega⟩, by omega⟩, h6, h2, h10, h7, h8, h9⟩
  · rintro ⟨⟨⟨h1, _⟩, h5⟩, h6, h2, h10, h7, h8, h9⟩
    exact ⟨⟨⟨h1, h2, by omega, by omega, by omega⟩, h6, h7, h8, h9⟩, h10⟩
theorem refR_bad {c : List Int} {ts : List Pt} {n k : Nat} (h : k < ts.length) (hb : goodR (2 ^ n) (prev ts k) (pt ts k) = false) : refR c ts n = false := by
  unfold refR
  rw [goodRTo_stop h hb, Bool.false_and, Bool.false_and]

set_option maxRecDepth 100000 in
set_option maxHeartbeats 8000000 in
theorem rrefutes_any (ac : Addr) (N capc : Nat) (A : Option Addr) (m cap n : Nat) (c : List Int) (ts : List Pt) (w : World) (hlc : c.length = N) (hv : valC c = true) (hnp : n = plr c) (hl : ts.length = m) (hm : m ≤ 9223372036854775807)
    (hc : Ints w (some ac) c) (h : Tps w A ts) (hr : ∀ t ∈ ts, (-9223372036854775808 ≤ t.1 ∧ t.1 ≤ 9223372036854775807) ∧ (-9223372036854775808 ≤ t.2.1 ∧ t.2.1 ≤ 9223372036854775807) ∧ -9223372036854775808 ≤ t.2.2 ∧ t.2.2 ≤ 9223372036854775807) :
    Calls Try.prog 46 #[.slice (some ac) N capc, .slice A m cap] w fun e w' => e = .returned (.bool (refR c ts n)) ∧ Below w.heap.size w w' := by
  have hpw := valC_pow hv
  rw [← hnp] at hpw
  have hn4 : 1 ≤ n ∧ n ≤ 4 := hpw.2
  have hN16 : 2 ≤ N ∧ N ≤ 16 := by have := (valC_iff.1 hv).1; omega
  have hN2 : N = 2 ^ n := by rw [← hlc]; exact hpw.1
  have hI := fun (hp : 0 < ts.length) => h.some_ hp
  have H := Lib.hid (And.intro hlc (And.intro hl (And.intro hc (And.intro hI (And.intro hr (And.intro hN2 (And.intro hv hnp)))))))
  have e0 : IntKind.i64.wrap ((2 : Int) ^ n) = (N : Int) := by rw [hN2, pow_wrap n (by omega)]
  clear hlc hl hc h hr hpw hv hnp hN2 hI
  obtain ⟨R, hR⟩ : ∃ R, R = refR c ts n := ⟨_, rfl⟩
  rw [← hR]
  have HR := Lib.hid hR
  clear hR
  go_enter Try.func46, Try.ntmps46
  go_wp2_with fail
  refine (rplayers_any (some ac) N capc c _ H.out.1 (by omega) H.out.2.2.1).mono ?_
  rintro e w' ⟨rfl, rfl⟩
  rw [← H.out.2.2.2.2.2.2.2]
  have HMA := Lib.hid metArr_nil
  go_wp2_with fail
  rw [← HMA.out]
  refine (rwhole_any _ _).mono ?_
  rintro e w1 ⟨rfl, hb⟩
  have hM1 : Blk w1 w.heap.size 86 (metArr []) := (Blk.new _ _ _ rfl).below hb (by simp)
  have hbw1 : Below w.heap.size w w1 := ((Below.refl _ _).alloc (Nat.le_refl _) _).trans (hb.mono (by simp))
  have hM1lt := hM1.lt
  have H1 := Lib.hid (And.intro hM1 hbw1)
  clear hb hM1 hbw1
  have e00 : fr ((0 : Int) : Rat) = .agg #[.int .i64 0, .int .i64 1] := rfl
  rw [e00]
  clear e00
  go_wp2_with fail
  go_loopw [19] (fun iv wr => ∃ k : Nat, k ≤ m ∧ iv = .int .i64 k ∧ goodRTo N ts k = true ∧ Blk wr w.heap.size 86 (metArr (prev ts k)) ∧ Blk wr w1.heap.size 31 #[.int .i64 (Rat.divInt (tI c ts k) SD).num, .int .i64 ((Rat.divInt (tI c ts k) SD).den : Int)] ∧ Below w.heap.size w wr) (fun iv _ => m - (intOf iv).toNat)
  case atStart =>
    have hz : Rat.divInt (tI c ts 0) SD = 0 := by rw [tI, Rat.zero_divInt]
    exact ⟨0, Nat.zero_le _, rfl, rfl, H1.out.1.alloc _, by rw [hz]; exact Blk.new _ _ _ rfl, H1.out.2.alloc (by omega) _⟩
  case round =>
    obtain ⟨k, hk, rfl, hg, hM, hQ, hbl⟩ := hrel
    obtain ⟨wo, rfl⟩ : ∃ wo : World, wo = wr := ⟨_, rfl⟩
    have hMlt := hM.lt
    have hQlt := hQ.lt
    have hws := hbl.size
    by_cases hlt : k < m
    · obtain ⟨hlc, hl, hc, hI, hr, hN2, hv, hnp⟩ := H.out
      obtain ⟨ad, rfl, _, hct⟩ := hI (by omega)
      obtain ⟨t, ht⟩ : ∃ t, ts[k]? = some t := ⟨_, List.getElem?_eq_getElem (by omega)⟩
      obtain ⟨g1, g2, g3⟩ := hct k t ht
      have c1 := (hbl.cell (lt_of_cell g1)).trans g1
      have c2 := (hbl.cell (lt_of_cell g2)).trans g2
      have c3 := (hbl.cell (lt_of_cell g3)).trans g3
      obtain ⟨hr1, hr2, hr3⟩ := hr t (List.mem_of_getElem? ht)
      have hpt := pt_get ht
      have hpv := prev_succ ht
      have hk15 : k < N := good_len (by omega) (by omega) (goodRTo_goodTo _ hg)
      have htb := tI_bd (valC_iff.1 hv).2.2 (goodRTo_goodTo _ hg)
      obtain ⟨s, a, b⟩ := t
      simp only at c1 c2 c3 hr1 hr2 hr3 hpv
      have hbad : goodR (2 ^ n) (prev ts k) (s, a, b) = false → R = false := fun hb => by rw [HR.out]; exact refR_bad (k := k) (by omega) (by rw [hpt]; exact hb)
      obtain ⟨W, hW⟩ : ∃ W, W = wo.alloc (.cells #[.int .i64 s, .int .i64 a, .int .i64 b] 85) := ⟨_, rfl⟩
      have hB : Blk W wo.heap.size 85 #[.int .i64 s, .int .i64 a, .int .i64 b] := by rw [hW]; exact Blk.new _ _ _ rfl
      have hMW : Blk W w.heap.size 86 (metArr (prev ts k)) := by rw [hW]; exact hM.alloc _
      have hQW : Blk W w1.heap.size 31 #[.int .i64 (Rat.divInt (tI c ts k) SD).num, .int .i64 ((Rat.divInt (tI c ts k) SD).den : Int)] := by rw [hW]; exact hQ.alloc _
      have hbW : Below w.heap.size w W := by rw [hW]; exact hbl.alloc hws _
      have hWsz : W.heap.size = wo.heap.size + 1 := by rw [hW]; simp
      have p1 : ∀ sd : Desc W, sd.val.cell? ⟨wo.heap.size, 0, none⟩ = some (.int .i64 s) := fun sd => sd.cell (hB.cell 0)
      have p2 : ∀ sd : Desc W, sd.val.cell? ⟨wo.heap.size, 1, none⟩ = some (.int .i64 a) := fun sd => sd.cell (hB.cell 1)
      have p3 : ∀ sd : Desc W, sd.val.cell? ⟨wo.heap.size, 2, none⟩ = some (.int .i64 b) := fun sd => sd.cell (hB.cell 2)
      have HLOW : Hid (∀ sd : Desc W, Calls Try.prog 22 #[.agg #[.int .i64 a, .int .i64 b]] sd.val fun e w'' => e = .returned (.bool (lowB a b)) ∧ ∃ s' : Desc W, w'' = s'.val) := Lib.hid fun sd =>
        Calls.desc_of ((rlowest_any a b _ (by omega) (by omega) (by omega)).mono fun e w' h => h)
      have HX := Lib.hid (And.intro hg (And.intro hB (And.intro hMW (And.intro hQW (And.intro hbW (And.intro hpt (And.intro hpv (And.intro hbad (And.intro hW (And.intro hWsz htb))))))))))
      have hgr : goodR N (prev ts k) (s, a, b) = false ∨ goodR N (prev ts k) (s, a, b) = true := by cases goodR N (prev ts k) (s, a, b) <;> simp
      have HGR := Lib.hid hgr
      clear hlc hl hc hI hr hN2 hv hnp hct ht g1 g2 g3 hpt hpv hbad hg hM hQ hbl hB hMW hQW hbW hWsz htb hgr
      go_wp2_with fail
      rw [← HX.out.2.2.2.2.2.2.2.2.1]
      clear hW c1 c2 c3
      by_cases h1 : s < 1
      · have HF : Hid (R = false) := Lib.hid (HX.out.2.2.2.2.2.2.2.1 (by rw [← Bool.not_eq_true]; intro h; have := goodR_iff.1 h; simp only at this; omega))
        have d1 : decide (s < 1) = true := decide_eq_true h1
        refine wp_region_desc (by kernel_rfl) (by kernel_rfl) ?_
        repeat (go_big_quiet_step (fail))
        refine wpQuiet_nil ?_
        rintro _ ⟨sd, rfl⟩
        have HB2 := Lib.hid (HX.out.2.2.2.2.1.trans (sd.below.mono HX.out.2.2.2.2.1.size))
        clear p1 p2 p3
        go_wp2_with fail
        go_ret
        exact ⟨ret_bool HF.out.symm, HB2.out⟩
      · have d1 : decide (s < 1) = false := decide_eq_false h1
        by_cases h2 : (N : Int) ≤ s
        · have HF : Hid (R = false) := Lib.hid (HX.out.2.2.2.2.2.2.2.1 (by rw [← Bool.not_eq_true, ← H.out.2.2.2.2.2.1]; intro h; have := goodR_iff.1 h; simp only at this; omega))
          have d2 : decide ((N : Int) ≤ s) = true := decide_eq_true h2
          refine wp_region_desc (by kernel_rfl) (by kernel_rfl) ?_
          repeat (go_big_quiet_step (fail))
          refine wpQuiet_nil ?_
          rintro _ ⟨sd, rfl⟩
          have HB2 := Lib.hid (HX.out.2.2.2.2.1.trans (sd.below.mono HX.out.2.2.2.2.1.size))
          clear p1 p2 p3
          go_wp2_with fail
          go_ret
          exact ⟨ret_bool HF.out.symm, HB2.out⟩
        · have d2 : decide ((N : Int) ≤ s) = false := decide_eq_false h2
          obtain ⟨sn, rfl⟩ := Int.eq_ofNat_of_zero_le (show 0 ≤ s by omega)
          have hsn : sn < 16 := by omega
          have p4 : ∀ sd : Desc W, sd.val.cell? ⟨w.heap.size, sn, none⟩ = some (.bool (decide ((sn : Int) ∈ prev ts k))) := fun sd => sd.cell (by rw [HX.out.2.2.1.cell, metArr_get hsn])
          have l1 : (sn : Int) < 16 := by omega
          have l2 : (0 : Int) ≤ (sn : Int) := by omega
          by_cases hin : (sn : Int) ∈ prev ts k
          · have HF : Hid (R = false) := Lib.hid (HX.out.2.2.2.2.2.2.2.1 (by rw [← Bool.not_eq_true]; intro h; exact (goodR_iff.1 h).2.2.2.2.2.2 hin))
            rw [decide_eq_true hin] at p4
            clear hin
            refine wp_region_desc (by kernel_rfl) (by kernel_rfl) ?_
            repeat (go_big_quiet_step (fail))
            refine wpQuiet_nil ?_
            rintro _ ⟨sd, rfl⟩
            have HB2 := Lib.hid (HX.out.2.2.2.2.1.trans (sd.below.mono HX.out.2.2.2.2.1.size))
            clear p1 p2 p3 p4
            go_wp2_with fail
            go_ret
            exact ⟨ret_bool HF.out.symm, HB2.out⟩
          · rw [decide_eq_false hin] at p4
            have HIN := Lib.hid hin
            clear hin
            cases hlow : lowB a b
            · have HF : Hid (R = false) := Lib.hid (HX.out.2.2.2.2.2.2.2.1 (by rw [← Bool.not_eq_true]; intro h; have := (goodR_iff.1 h).1; simp only at this; rw [hlow] at this; cases this))
              rw [hlow] at HLOW
              clear hlow
              refine wp_region_desc (by kernel_rfl) (by kernel_rfl) ?_
              repeat (go_big_quiet_step ((go_at_call 22; exact HLOW.out _)))
              refine wpQuiet_nil ?_
              rintro _ ⟨sd, rfl⟩
              have HB2 := Lib.hid (HX.out.2.2.2.2.1.trans (sd.below.mono HX.out.2.2.2.2.1.size))
              clear p1 p2 p3 p4
              go_wp2_with fail
              go_ret
              exact ⟨ret_bool HF.out.symm, HB2.out⟩
            · have HLO := Lib.hid hlow
              rw [hlow] at HLOW
              clear hlow
              by_cases h5 : a < 1
              · have HF : Hid (R = false) := Lib.hid (HX.out.2.2.2.2.2.2.2.1 (by rw [← Bool.not_eq_true]; intro h; have := goodR_iff.1 h; simp only at this; omega))
                have d5 : decide (a < 1) = true := decide_eq_true h5
                refine wp_region_desc (by kernel_rfl) (by kernel_rfl) ?_
                repeat (go_big_quiet_step ((go_at_call 22; exact HLOW.out _)))
                refine wpQuiet_nil ?_
                rintro _ ⟨sd, rfl⟩
                have HB2 := Lib.hid (HX.out.2.2.2.2.1.trans (sd.below.mono HX.out.2.2.2.2.1.size))
                clear p1 p2 p3 p4
                go_wp2_with fail
                go_ret
                exact ⟨ret_bool HF.out.symm, HB2.out⟩
              · have d5 : decide (a < 1) = false := decide_eq_false h5
                by_cases h6 : 12 < b
                · have HF : Hid (R = false) := Lib.hid (HX.out.2.2.2.2.2.2.2.1 (by rw [← Bool.not_eq_true]; intro h; have := goodR_iff.1 h; simp only at this; omega))
                  have d6 : decide (12 < b) = true := decide_eq_true h6
                  refine wp_region_desc (by kernel_rfl) (by kernel_rfl) ?_
                  repeat (go_big_quiet_step ((go_at_call 22; exact HLOW.out _)))
                  refine wpQuiet_nil ?_
                  rintro _ ⟨sd, rfl⟩
                  have HB2 := Lib.hid (HX.out.2.2.2.2.1.trans (sd.below.mono HX.out.2.2.2.2.1.size))
                  clear p1 p2 p3 p4
                  go_wp2_with fail
                  go_ret
                  exact ⟨ret_bool HF.out.symm, HB2.out⟩
                · have d6 : decide (12 < b) = false := decide_eq_false h6
                  by_cases h7 : b < a
                  · have HF : Hid (R = false) := Lib.hid (HX.out.2.2.2.2.2.2.2.1 (by rw [← Bool.not_eq_true]; intro h; have := goodR_iff.1 h; simp only at this; omega))
                    have d7 : decide (b < a) = true := decide_eq_true h7
                    refine wp_region_desc (by kernel_rfl) (by kernel_rfl) ?_
                    repeat (go_big_quiet_step ((go_at_call 22; exact HLOW.out _)))
                    refine wpQuiet_nil ?_
                    rintro _ ⟨sd, rfl⟩
                    have HB2 := Lib.hid (HX.out.2.2.2.2.1.trans (sd.below.mono HX.out.2.2.2.2.1.size))
                    clear p1 p2 p3 p4
                    go_wp2_with fail
                    go_ret
                    exact ⟨ret_bool HF.out.symm, HB2.out⟩
                  · have d7 : decide (b < a) = false := decide_eq_false h7
                    refine wp_region_desc (by kernel_rfl) (by kernel_rfl) ?_
                    repeat (go_big_quiet_step ((go_at_call 22; exact HLOW.out _)))
                    refine wpQuiet_nil ?_
                    rintro _ ⟨sd, rfl⟩
                    have hb2 := sd.below
                    generalize sd.val = w2 at hb2 ⊢
                    clear p1 p2 p3 p4 d1 d2 d5 d6 d7
                    have hgood : goodR N (prev ts k) ((sn : Int), a, b) = true := goodR_iff.2 ⟨HLO.out, by simp only; omega, by simp only; omega, by simp only; omega, by simp only; omega, by simp only; omega, HIN.out⟩
                    have hgk : goodRTo N ts (k + 1) = true := by rw [goodRTo_succ, HX.out.1, HX.out.2.2.2.2.2.1, hgood]; rfl
                    have hgI : goodI N (prev ts k) ((sn : Int), a, b) = true := by unfold goodR at hgood; rw [Bool.and_eq_true] at hgood; exact hgood.1
                    have hwW := HX.out.2.2.2.2.2.2.2.2.2.1
                    have hB2 := HX.out.2.1.below hb2 (by omega)
                    have hM2 := HX.out.2.2.1.below hb2 (by omega)
                    have hQ2 := HX.out.2.2.2.1.below hb2 (by omega)
                    have hbw2 := HX.out.2.2.2.2.1.trans (hb2.mono (by omega))
                    have p1 : w2.cell? ⟨wo.heap.size, 0, none⟩ = some (.int .i64 (sn : Int)) := hB2.cell 0
                    have p4 : w2.cell? ⟨w.heap.size, sn, none⟩ = some (.bool (decide ((sn : Int) ∈ prev ts k))) := by rw [hM2.cell, metArr_get hsn]
                    have p5 : w2.frozen? ⟨w.heap.size, sn, none⟩ = false := hM2.frozen sn
                    have hw2z := hb2.size
                    have H2 := Lib.hid (And.intro hB2 (And.intro hM2 (And.intro hQ2 (And.intro hbw2 (And.intro hgk hgI)))))
                    clear hB2 hM2 hQ2 hbw2 hgk hgI hgood hb2
                    go_wp2_with fail
                    clear p1 p4 p5
                    obtain ⟨w3, hw3⟩ : ∃ w3, w3 = w2.setCell ⟨w.heap.size, sn, none⟩ (.bool true) := ⟨_, rfl⟩
                    rw [← hw3]
                    have hM3 : Blk w3 w.heap.size 86 (metArr (prev ts k ++ [(sn : Int)])) := by rw [hw3, ← metArr_set hsn]; exact H2.out.2.1.set_ sn _
                    have hB3 : Blk w3 wo.heap.size 85 #[.int .i64 (sn : Int), .int .i64 a, .int .i64 b] := by rw [hw3]; exact H2.out.1.far (by show wo.heap.size ≠ w.heap.size; omega) _
                    have hQ3 : Blk w3 w1.heap.size 31 #[.int .i64 (Rat.divInt (tI c ts k) SD).num, .int .i64 ((Rat.divInt (tI c ts k) SD).den : Int)] := by rw [hw3]; exact H2.out.2.2.1.far (by show w1.heap.size ≠ w.heap.size; omega) _
                    have hbw3 : Below w.heap.size w w3 := by rw [hw3]; exact H2.out.2.2.2.1.setCell (Nat.le_refl _) _
                    obtain ⟨z, hz⟩ : ∃ z, c[sn]? = some z := ⟨_, List.getElem?_eq_getElem (by have := H.out.1; omega)⟩
                    have hzb := (valC_iff.1 H.out.2.2.2.2.2.2.1).2.2 z (List.mem_of_getElem? hz)
                    obtain ⟨hs12, ha1, _⟩ := goodI_iff.1 H2.out.2.2.2.2.2
                    obtain ⟨hb1, hb12, _, _, hgcd⟩ := scB_iff.1 hs12
                    have ha1' : 1 ≤ a := ha1
                    have hb1' : 1 ≤ b := hb1
                    have hb12' : b ≤ 12 := hb12
                    clear ha1 hb1 hb12
                    obtain ⟨sh, hsn1, hsd1, hshe⟩ := share_rat (a := a) (b := b) hb1' hb12' hgcd
                    have hv2 := ptN_pos H2.out.2.2.2.2.2
                    have hzv := nz_bd hv2 hzb
                    have htb := HX.out.2.2.2.2.2.2.2.2.2.2
                    have hshm : sh * (z : Rat) = Rat.divInt (ptN ((sn : Int), a, b) * z) SD := by rw [hshe, share_mul]; rfl
                    have hnext : tI c ts (k + 1) = tI c ts k + ptN ((sn : Int), a, b) * z := by
                      rw [tI, HX.out.2.2.2.2.2.1]
                      simp only [Int.toNat_natCast]
                      rw [List.getD_eq_getElem?_getD, hz]; rfl
                    have hadd : Rat.divInt (tI c ts k) SD + sh * (z : Rat) = Rat.divInt (tI c ts (k + 1)) SD := by rw [hshm, hnext, add_same]
                    have hT1' := sd_bd (T := tI c ts k) (m := 50000000000000) (by omega) (by omega)
                    have hT2' := sd_bd (T := ptN ((sn : Int), a, b) * z) (m := 50000000000000) (by omega) (by omega)
                    rw [← hshm] at hT2'
                    have hpr := sd_prods hT1' hT2'
                    have hmul1 := mul_bd (a := a) (b := z) (m := 12) (n := 1000) (by omega) (by omega) hzb.1 hzb.2
                    obtain ⟨X, hX⟩ : ∃ X, X = Rat.divInt (tI c ts k) SD := ⟨_, rfl⟩
                    rw [← hX] at hpr hadd hQ3
                    obtain ⟨Y, hY⟩ : ∃ Y, Y = sh * (z : Rat) := ⟨_, rfl⟩
                    rw [← hY] at hpr hadd
                    obtain ⟨Z, hZ⟩ : ∃ Z, Z = Rat.divInt (tI c ts (k + 1)) SD := ⟨_, rfl⟩
                    rw [← hZ] at hadd
                    have HZ := Lib.hid hZ
                    clear hZ
                    have q1 : ∀ sd : Desc w3, sd.val.cell? ⟨w1.heap.size, 0, none⟩ = some (.int .i64 X.num) := fun sd => sd.cell (hQ3.cell 0)
                    have q2 : ∀ sd : Desc w3, sd.val.cell? ⟨w1.heap.size, 1, none⟩ = some (.int .i64 (X.den : Int)) := fun sd => sd.cell (hQ3.cell 1)
                    have p1 : ∀ sd : Desc w3, sd.val.cell? ⟨wo.heap.size, 0, none⟩ = some (.int .i64 (sn : Int)) := fun sd => sd.cell (hB3.cell 0)
                    have p2 : ∀ sd : Desc w3, sd.val.cell? ⟨wo.heap.size, 1, none⟩ = some (.int .i64 a) := fun sd => sd.cell (hB3.cell 1)
                    have p3 : ∀ sd : Desc w3, sd.val.cell? ⟨wo.heap.size, 2, none⟩ = some (.int .i64 b) := fun sd => sd.cell (hB3.cell 2)
                    have c4 : ∀ sd : Desc w3, sd.val.cell? (ac.add sn) = some (.int .i64 z) := fun sd => sd.cell ((H.out.2.2.1.below hbw3).some2 sn _ (by simp [hz]))
                    have HWH : Hid (∀ sd : Desc w3, Calls Try.prog 63 #[.int .i64 z] sd.val fun e w'' => e = .returned (.agg #[.int .i64 z, .int .i64 1]) ∧ ∃ s' : Desc w3, w'' = s'.val) := Lib.hid fun sd =>
                      Calls.desc_of ((rwhole_any z _).mono fun e w' h => ⟨by rw [h.1]; rfl, h.2⟩)
                    have HMU : Hid (∀ sd : Desc w3, Calls Try.prog 48 #[.agg #[.int .i64 a, .int .i64 b], .agg #[.int .i64 z, .int .i64 1]] sd.val fun e w'' => e = .returned (.agg #[.int .i64 Y.num, .int .i64 (Y.den : Int)]) ∧ ∃ s' : Desc w3, w'' = s'.val) := Lib.hid fun sd => by
                      have hm := rmul_raw sh (z : Rat) sd.val (by rw [hsn1]; show _ ≤ a * z; omega) (by rw [hsn1]; show a * z ≤ _; omega) (by rw [hsd1]; show b * 1 ≤ _; omega)
                      have e1 : fr sh = .agg #[.int .i64 a, .int .i64 b] := by unfold fr; rw [hsn1, hsd1]
                      rw [e1] at hm
                      exact Calls.desc_of (hm.mono fun e w' h => ⟨by rw [h.1, hY]; rfl, h.2⟩)
                    have HAD : Hid (∀ sd : Desc w3, Calls Try.prog 25 #[.agg #[.int .i64 X.num, .int .i64 (X.den : Int)], .agg #[.int .i64 Y.num, .int .i64 (Y.den : Int)]] sd.val fun e w'' => e = .returned (.agg #[.int .i64 Z.num, .int .i64 (Z.den : Int)]) ∧ ∃ s' : Desc w3, w'' = s'.val) := Lib.hid fun sd =>
                      Calls.desc_of ((radd_raw X Y _ hpr.1 hpr.2.1 hpr.2.2.1 hpr.2.2.2.1 hpr.2.2.2.2).mono fun e w' h => ⟨by rw [h.1, hadd]; rfl, h.2⟩)
                    have hsz3 := hbw3.size
                    have hQ3lt := hQ3.lt
                    have hB3lt := hB3.lt
                    have hM3lt := hM3.lt
                    have H3 := Lib.hid (And.intro hM3 (And.intro hQ3 (And.intro hbw3 H2.out.2.2.2.2.1)))
                    clear hw3 hM3 hQ3 hbw3 hB3 hz hX hY hadd hpr hmul1 hshm hshe hsn1 hsd1 hgcd hs12 hT1' hT2' hnext hzv
                    refine wp_region_desc_tail 11 (by kernel_rfl) (by kernel_rfl) ?_
                    simp only [List.take_succ_cons, List.take_zero, List.drop_succ_cons, List.drop_zero]
                    repeat (go_big_quiet_step (first | (go_at_call 63; exact HWH.out _) | (go_at_call 48; exact HMU.out _) | (go_at_call 25; exact HAD.out _)))
                    refine wpQuiet_nil ?_
                    rintro _ ⟨sd, rfl⟩
                    have hb3 := sd.below
                    generalize sd.val = w4 at hb3 ⊢
                    clear q1 q2 p1 p2 p3 c4
                    have hM4 := H3.out.1.below hb3 hM3lt
                    have hQ4 := H3.out.2.1.below hb3 hQ3lt
                    have hbw4 := H3.out.2.2.1.trans (hb3.mono hsz3)
                    obtain ⟨s1, s2, s3, s4⟩ := hQ4.at2
                    have H4 := Lib.hid (And.intro hM4 (And.intro hQ4 hbw4))
                    clear hM4 hQ4 hbw4 hb3
                    go_wp2_with fail
                    go_roundw
                    case rel =>
                      refine ⟨k + 1, by omega, by go_num, H3.out.2.2.2, ?_, ?_, (H4.out.2.2.setCell (by show w.heap.size ≤ w1.heap.size; omega) _).setCell (by show w.heap.size ≤ w1.heap.size; omega) _⟩
                      · rw [HX.out.2.2.2.2.2.2.1]
                        exact (H4.out.1.far (by show w.heap.size ≠ w1.heap.size; omega) _).far (by show w.heap.size ≠ w1.heap.size; omega) _
                      · rw [← HZ.out]
                        exact (H4.out.2.1.set_ 0 _).set_ 1 _
                    case measure => simp [intOf]; omega
    · obtain rfl : m = k := by omega
      have hmN : m < N := good_len (by omega) (by have := H.out.2.1; omega) (goodRTo_goodTo _ hg)
      have htb := tI_bd (valC_iff.1 H.out.2.2.2.2.2.2.1).2.2 (goodRTo_goodTo _ hg)
      have HG := Lib.hid hg
      have HW := Lib.hid (And.intro hQ hbl)
      clear hg hM hQ hbl
      go_wp2_with fail
      go_loopw [82] (fun iv wr => ∃ i : Nat, i ≤ n ∧ iv = .int .i64 i ∧ ((List.range i).all fun i => decide (sI ts i m = 27720)) = true ∧ Below wo.heap.size wo wr) (fun iv _ => n - (intOf iv).toNat)
      case atStart => exact ⟨0, Nat.zero_le _, rfl, rfl, Below.refl _ _⟩
      case round =>
        obtain ⟨i, hi, rfl, hall, hbl⟩ := hrel
        obtain ⟨wp, rfl⟩ : ∃ wp : World, wp = wr := ⟨_, rfl⟩
        have HA := Lib.hid (And.intro hall hbl)
        have hwp := hbl.size
        clear hall hbl
        by_cases hlt : i < n
        · go_wp2_with fail
          refine (rwhole_any _ _).mono ?_
          rintro e w2 ⟨rfl, hb2⟩
          have e00 : fr ((0 : Int) : Rat) = .agg #[.int .i64 0, .int .i64 1] := rfl
          rw [e00]
          clear e00
          have HB2 := Lib.hid (HA.out.2.trans (hb2.mono hwp))
          have hw2 := hb2.size
          clear hb2
          go_wp2_with fail
          go_loopw [88] (fun jv wr => ∃ j : Nat, j ≤ m ∧ jv = .int .i64 j ∧ Blk wr w2.heap.size 31 #[.int .i64 (Rat.divInt (sI ts i j) SD).num, .int .i64 ((Rat.divInt (sI ts i j) SD).den : Int)] ∧ Below wo.heap.size wo wr) (fun jv _ => m - (intOf jv).toNat)
          case atStart =>
            have hz : Rat.divInt (sI ts i 0) SD = 0 := by rw [sI, Rat.zero_divInt]
            exact ⟨0, Nat.zero_le _, rfl, by rw [hz]; exact Blk.new _ _ _ rfl, HB2.out.alloc (by omega) _⟩
          case round =>
            obtain ⟨j, hj, rfl, hO, hbl⟩ := hrel
            have hOlt := hO.lt
            have hwr := hbl.size
            by_cases hlj : j < m
            · obtain ⟨hlc, hl, hc, hI, hr, hN2, hv, hnp⟩ := H.out
              obtain ⟨ad, rfl, _, hct⟩ := hI (by omega)
              obtain ⟨t, ht⟩ : ∃ t, ts[j]? = some t := ⟨_, List.getElem?_eq_getElem (by omega)⟩
              obtain ⟨g1, g2, g3⟩ := hct j t ht
              have hbw := HW.out.2.trans (hbl.mono hws)
              have c1 := (hbw.cell (lt_of_cell g1)).trans g1
              have c2 := (hbw.cell (lt_of_cell g2)).trans g2
              have c3 := (hbw.cell (lt_of_cell g3)).trans g3
              have hpt := pt_get ht
              have hgR : goodR N (prev ts j) (pt ts j) = true := by
                have h := HG.out
                unfold goodRTo at h
                rw [List.all_eq_true] at h
                exact h j (by simpa using hlj)
              rw [hpt] at hgR
              obtain ⟨s, a, b⟩ := t
              simp only at c1 c2 c3
              have hgI : goodI N (prev ts j) (s, a, b) = true := by unfold goodR at hgR; rw [Bool.and_eq_true] at hgR; exact hgR.1
              obtain ⟨hs12, ha1, hs1, hsN, _⟩ := goodI_iff.1 hgI
              have hs1' : 1 ≤ s := hs1
              have hsN' : s < (N : Int) := hsN
              obtain ⟨hb1, hb12, _, _, hgcd⟩ := scB_iff.1 hs12
              obtain ⟨sh, hsn1, hsd1, hshe⟩ := share_rat (a := a) (b := b) hb1 hb12 hgcd
              have hv2 := ptN_pos hgI
              have hsb := sI_bd (N := N) i (k := j) (by
                have h := goodRTo_goodTo _ HG.out
                unfold goodTo at h ⊢
                rw [List.all_eq_true] at h ⊢
                intro x hx
                rw [List.mem_range] at hx
                exact h x (by rw [List.mem_range]; omega))
              obtain ⟨sn, rfl⟩ := Int.eq_ofNat_of_zero_le (show 0 ≤ s by omega)
              have hnext : sI ts i (j + 1) = sI ts i j + ptN ((sn : Int), a, b) * (if sn.testBit i then 1 else 0) := by
                rw [sI, hpt]
                simp only [Int.toNat_natCast]
              have hs2 : sh = Rat.divInt (ptN ((sn : Int), a, b)) SD := hshe
              have hadd : Rat.divInt (sI ts i j) SD + sh = Rat.divInt (sI ts i j + ptN ((sn : Int), a, b)) SD := by rw [hs2, add_same]
              have hT1' := sd_bd (T := sI ts i j) (m := 50000000000000) (by omega) (by omega)
              have hT2' := sd_bd (T := ptN ((sn : Int), a, b)) (m := 50000000000000) (by omega) (by omega)
              rw [← hs2] at hT2'
              have hpr := sd_prods hT1' hT2'
              obtain ⟨X, hX⟩ : ∃ X, X = Rat.divInt (sI ts i j) SD := ⟨_, rfl⟩
              rw [← hX] at hpr hadd hO
              have HX := Lib.hid (And.intro hO (And.intro hbl (And.intro hnext (And.intro hX (And.intro hadd (And.intro hpr (And.intro hsn1 hsd1)))))))
              have hl1 : ∀ o, (wr.alloc o).cell? ⟨w2.heap.size, 0, none⟩ = some (.int .i64 X.num) := fun o => (hO.alloc o).at2.1
              have hl2 : ∀ o, (wr.alloc o).cell? ⟨w2.heap.size, 1, none⟩ = some (.int .i64 (X.den : Int)) := fun o => (hO.alloc o).at2.2.1
              clear hlc hl hc hI hr hN2 hv hnp hct ht g1 g2 g3 hpt hgR hgI hs12 ha1 hs1 hsN hb1 hb12 hgcd hshe hs2 hadd hT1' hT2' hpr hO hbl hnext hX hbw hsn1 hsd1 hv2 hsb
              cases hbit : sn.testBit i
              · have t1 := and_shr_f (set := sn) (k := i) (by omega) hbit
                have HN : Hid (sI ts i (j + 1) = sI ts i j) := Lib.hid (by rw [HX.out.2.2.1, hbit]; simp)
                clear hbit
                go_wp2_with fail
                go_roundw
                case rel => exact ⟨j + 1, by omega, by go_num, by rw [HN.out, ← HX.out.2.2.2.1]; exact HX.out.1.alloc _, HX.out.2.1.alloc hwr _⟩
                case measure => simp [intOf]; omega
              · have t1 := and_shr_t (set := sn) (k := i) (by omega) hbit
                have HN : Hid (Rat.divInt (sI ts i (j + 1)) SD = X + sh) := Lib.hid (by rw [HX.out.2.2.1, hbit, HX.out.2.2.2.2.1]; simp)
                clear hbit
                go_wp2_with fail
                have e1 : fr sh = .agg #[.int .i64 a, .int .i64 b] := by unfold fr; rw [HX.out.2.2.2.2.2.2.1, HX.out.2.2.2.2.2.2.2]
                rw [← e1]
                refine (radd_raw X sh _ HX.out.2.2.2.2.2.1.1 HX.out.2.2.2.2.2.1.2.1 HX.out.2.2.2.2.2.1.2.2.1 HX.out.2.2.2.2.2.1.2.2.2.1 HX.out.2.2.2.2.2.1.2.2.2.2).mono ?_
                rintro e w5 ⟨rfl, hb5⟩
                rw [← HN.out]
                have hO5 := (HX.out.1.alloc (.cells #[.int .i64 (sn : Int), .int .i64 a, .int .i64 b] 85)).below hb5 (by simp; omega)
                have hbw5 := (HX.out.2.1.alloc hwr (.cells #[.int .i64 (sn : Int), .int .i64 a, .int .i64 b] 85)).trans (hb5.mono (by simp; omega))
                obtain ⟨s1, s2, s3, s4⟩ := hO5.at2
                have H5 := Lib.hid (And.intro hO5 hbw5)
                clear hO5 hbw5 hb5 e1 hl1 hl2
                generalize hZ : Rat.divInt (sI ts i (j + 1)) SD = Z
                have HZ := Lib.hid hZ
                clear hZ
                unfold fr
                go_wp2_with fail
                go_roundw
                case rel =>
                  refine ⟨j + 1, by omega, by go_num, ?_, (H5.out.2.setCell (by show wo.heap.size ≤ w2.heap.size; omega) _).setCell (by show wo.heap.size ≤ w2.heap.size; omega) _⟩
                  rw [HZ.out]
                  exact (H5.out.1.set_ 0 _).set_ 1 _
                case measure => simp [intOf]; omega
            · obtain rfl : m = j := by omega
              obtain ⟨T, hT⟩ : ∃ T, T = sI ts i m := ⟨_, rfl⟩
              rw [← hT] at hO
              obtain ⟨X, hX⟩ : ∃ X, X = Rat.divInt T SD := ⟨_, rfl⟩
              rw [← hX] at hO
              have q1 : ∀ sd : Desc wr, sd.val.cell? ⟨w2.heap.size, 0, none⟩ = some (.int .i64 X.num) := fun sd => sd.cell (hO.cell 0)
              have q2 : ∀ sd : Desc wr, sd.val.cell? ⟨w2.heap.size, 1, none⟩ = some (.int .i64 (X.den : Int)) := fun sd => sd.cell (hO.cell 1)
              have HWH : Hid (∀ sd : Desc wr, Calls Try.prog 63 #[.int .i64 1] sd.val fun e w'' => e = .returned (.agg #[.int .i64 1, .int .i64 1]) ∧ ∃ s' : Desc wr, w'' = s'.val) := Lib.hid fun sd =>
                Calls.desc_of ((rwhole_any 1 _).mono fun e w' h => ⟨by rw [h.1]; rfl, h.2⟩)
              have hNE : ∀ w : World, (binOp .neq 31 (.agg #[.int .i64 X.num, .int .i64 (X.den : Int)]) (.agg #[.int .i64 1, .int .i64 1])).run Try.prog w = .ok (.bool (neB X 1)) w := fun w => run_neq_frac X 1 w
              have hone := sd_one T
              rw [← hX] at hone
              have HO := Lib.hid (And.intro hbl (And.intro hone hT))
              clear hO hbl hone hX hT
              by_cases he : X = 1
              · have hn1 : neB X 1 = false := by simp [neB, he]
                have HN : Hid (sI ts i m = 27720) := Lib.hid (by rw [← HO.out.2.2]; exact HO.out.2.1.1 he)
                rw [hn1] at hNE
                clear hn1 he
                go_wp2_with fail
                refine wp_region_desc (by kernel_rfl) (by kernel_rfl) ?_
                repeat (go_big_quiet_step ((go_at_call 63; exact HWH.out _)))
                refine wpQuiet_nil ?_
                rintro _ ⟨sd, rfl⟩
                have HB6 := Lib.hid (HO.out.1.trans (sd.below.mono hwr))
                clear q1 q2 hNE
                go_wp2_with fail
                go_roundw
                case rel => exact ⟨i + 1, by omega, by go_num, by rw [List.range_succ, List.all_append, HA.out.1]; simp [HN.out], HB6.out⟩
                case measure => simp [intOf]; omega
              · have hn1 : neB X 1 = true := by simp [neB, he]
                have HF : Hid (R = false) := Lib.hid (by
                  rw [HR.out]
                  unfold refR
                  have : onesI ts n = false := by
                    unfold onesI
                    rw [List.all_eq_false]
                    refine ⟨i, by simpa using hlt, ?_⟩
                    rw [H.out.2.1, ← HO.out.2.2]
                    simp only [decide_eq_true_eq]
                    exact fun h => he (HO.out.2.1.2 h)
                  rw [this, Bool.and_false, Bool.false_and])
                rw [hn1] at hNE
                clear hn1 he
                go_wp2_with fail
                refine wp_region_desc (by kernel_rfl) (by kernel_rfl) ?_
                repeat (go_big_quiet_step ((go_at_call 63; exact HWH.out _)))
                refine wpQuiet_nil ?_
                rintro _ ⟨sd, rfl⟩
                have HB6 := Lib.hid (HW.out.2.trans ((HO.out.1.trans (sd.below.mono hwr)).mono hws))
                clear q1 q2 hNE
                go_wp2_with fail
                go_ret
                exact ⟨ret_bool HF.out.symm, HB6.out⟩
        · obtain rfl : n = i := by omega
          obtain ⟨n1, hn1⟩ : ∃ n1, n1 + 1 = N := ⟨N - 1, by omega⟩
          obtain ⟨x, hx⟩ : ∃ x, c[n1]? = some x := ⟨_, List.getElem?_eq_getElem (by have := H.out.1; omega)⟩
          have hxb := (valC_iff.1 H.out.2.2.2.2.2.2.1).2.2 x (List.mem_of_getElem? hx)
          have hbw := HW.out.2.trans (HA.out.2.mono hws)
          have hQp := HW.out.1.below HA.out.2 hQlt
          obtain ⟨T, hT⟩ : ∃ T, T = tI c ts m := ⟨_, rfl⟩
          rw [← hT] at hQp htb
          have hRe : R = decide (T < x * 27720) := by
            rw [HR.out]
            unfold refR
            have h1 : onesI ts n = true := by unfold onesI; rw [H.out.2.1]; exact HA.out.1
            rw [h1, H.out.2.1, ← H.out.2.2.2.2.2.1, HG.out, show N - 1 = n1 from by omega, List.getD_eq_getElem?_getD, hx, ← hT]
            rfl
          have hT1 := sd_bd (T := T) (m := 50000000000000) (by omega) (by omega)
          have hlt3 := sd_lt T x
          obtain ⟨X, hX⟩ : ∃ X, X = Rat.divInt T SD := ⟨_, rfl⟩
          rw [← hX] at hQp hT1 hlt3
          have hpr := sd_prods hT1 (y := (x : Rat)) ⟨by show (1 : Int) ≤ _; omega, by show _ ≤ x; omega, by show x ≤ _; omega⟩
          have hRd : decide (X < (x : Rat)) = R := by rw [hRe, decide_eq_decide]; exact hlt3
          have e1 : IntKind.i64.wrap ((N : Int) - 1) = (n1 : Int) := by rw [IntWalk.i64_in _ (by omega)]; omega
          have l1 : (n1 : Int) < (N : Int) := by omega
          have l2 : (0 : Int) ≤ (n1 : Int) := by omega
          have q1 : ∀ sd : Desc wp, sd.val.cell? ⟨w1.heap.size, 0, none⟩ = some (.int .i64 X.num) := fun sd => sd.cell (hQp.cell 0)
          have q2 : ∀ sd : Desc wp, sd.val.cell? ⟨w1.heap.size, 1, none⟩ = some (.int .i64 (X.den : Int)) := fun sd => sd.cell (hQp.cell 1)
          have c4 : ∀ sd : Desc wp, sd.val.cell? (ac.add n1) = some (.int .i64 x) := fun sd => sd.cell ((H.out.2.2.1.below hbw).some2 n1 _ (by simp [hx]))
          have HWH : Hid (∀ sd : Desc wp, Calls Try.prog 63 #[.int .i64 x] sd.val fun e w'' => e = .returned (.agg #[.int .i64 x, .int .i64 1]) ∧ ∃ s' : Desc wp, w'' = s'.val) := Lib.hid fun sd =>
            Calls.desc_of ((rwhole_any x _).mono fun e w' h => ⟨by rw [h.1]; rfl, h.2⟩)
          have HLS : Hid (∀ sd : Desc wp, Calls Try.prog 42 #[.agg #[.int .i64 X.num, .int .i64 (X.den : Int)], .agg #[.int .i64 x, .int .i64 1]] sd.val fun e w'' => e = .returned (.bool R) ∧ ∃ s' : Desc wp, w'' = s'.val) := Lib.hid fun sd =>
            Calls.desc_of ((rless_any X (x : Rat) _ hpr.1 hpr.2.1 hpr.2.2.1 hpr.2.2.2.1).mono fun e w' h => ⟨by rw [h.1, hRd], h.2⟩)
          have HBW := Lib.hid hbw
          have hwpz := hbw.size
          clear hbw hQp hT hRe hT1 hlt3 hX hpr hRd hx hn1
          go_wp2_with fail
          refine wp_region_desc (by kernel_rfl) (by kernel_rfl) ?_
          repeat (go_big_quiet_step (first | (go_at_call 63; exact HWH.out _) | (go_at_call 42; exact HLS.out _)))
          refine wpQuiet_nil ?_
          rintro _ ⟨sd, rfl⟩
          have HB6 := Lib.hid (HBW.out.trans (sd.below.mono hwpz))
          clear q1 q2 c4
          go_wp2_with fail
          go_ret
          exact ⟨rfl, HB6.out⟩

/- GamesChecks returns true for every costs, payments and collection: the walk. -/

theorem crB_take (c : List Int) (ts : List Pt) (h : valC c = true) : crB (c.take 18) (ts.take 18) = refR c ts (plr c) := by
  have h18 : c.take 18 = c := take18 (by have := (valC_iff.1 h).1; omega)
  rw [h18]
  unfold crB
  rw [h, if_pos rfl, refI_take (valC_pow h).2.2]

set_option maxRecDepth 100000 in
set_option maxHeartbeats 4000000 in
theorem law_checks (A : Option Addr) (n cap : Nat) (c : List Int) (X : Option Addr) (m capx : Nat) (ps : List (Int × Int)) (L : Option Addr) (k capl : Nat) (ts : List Pt) (w : World)
    (hl : c.length = n) (hcp : n ≤ cap) (hm : cap ≤ 9223372036854775807) (hc : Ints w A c) (_ : ∀ x ∈ c, -9223372036854775808 ≤ x ∧ x ≤ 9223372036854775807)
    (hlp : ps.length = m) (hmp : m ≤ capx) (hcx : capx ≤ 9223372036854775807) (hp : Prs w X ps) (hr : ∀ p ∈ ps, (-9223372036854775808 ≤ p.1 ∧ p.1 ≤ 9223372036854775807) ∧ -9223372036854775808 ≤ p.2 ∧ p.2 ≤ 9223372036854775807)
    (hlt : ts.length = k) (hkl : k ≤ capl) (hcl : capl ≤ 9223372036854775807) (ht : Tps w L ts) (hrt : ∀ t ∈ ts, (-9223372036854775808 ≤ t.1 ∧ t.1 ≤ 9223372036854775807) ∧ (-9223372036854775808 ≤ t.2.1 ∧ t.2.1 ≤ 9223372036854775807) ∧ -9223372036854775808 ≤ t.2.2 ∧ t.2.2 ≤ 9223372036854775807) :
    Calls Try.prog 9 #[.slice A n cap, .slice X m capx, .slice L k capl] w fun e w' => e = .returned (.bool true) ∧ Below w.heap.size w w' := by
  have H := Lib.hid (And.intro hl (And.intro hc (And.intro hlp (And.intro hp hr))))
  have HL := Lib.hid (And.intro hlt (And.intro ht hrt))
  clear hl hc hlp hp hr hlt ht hrt
  go_enter Try.func9, Try.ntmps9
  go_wp2_with fail
  refine (list_any A n cap c _ H.out.1 hcp hm H.out.2.1).mono ?_
  rintro e w1 ⟨A1, c1, rfl, hown, hb⟩
  have hI : Ints w1 A1 (c.take 18) := At.of_own hown
  have hlt : (c.take 18).length = min n 18 := by rw [List.length_take, H.out.1]; omega
  have H1 := Lib.hid (And.intro hI (And.intro hb hlt))
  clear hown hb hI hlt
  go_wp2_with fail
  refine (lfracs_any X m capx ps _ H.out.2.2.1 hmp hcx (H.out.2.2.2.1.below H1.out.2.1)).mono ?_
  rintro e w2 ⟨A2, c2, rfl, hown, hb⟩
  have hI : Prs w2 A2 (ps.take 6) := At.of_own hown
  have hlt : (ps.take 6).length = min m 6 := by rw [List.length_take, H.out.2.2.1]; omega
  have H2 := Lib.hid (And.intro hI (And.intro (H1.out.2.1.trans (hb.mono H1.out.2.1.size)) (And.intro hlt (H1.out.1.below hb))))
  clear hown hb hI hlt
  go_wp2_with fail
  refine (checkcore_any A1 (min n 18) c1 A2 (min m 6) c2 (c.take 18) (ps.take 6) _ H1.out.2.2 (by omega) H2.out.2.2.1 (by omega) H2.out.2.2.2 H2.out.1 (fun p hp => H.out.2.2.2.2 p (List.mem_of_mem_take hp))).mono ?_
  rintro e w3 ⟨rfl, hb3⟩
  rw [ccB_take, ccE_take]
  have HB3 := Lib.hid (H2.out.2.1.trans (hb3.mono H2.out.2.1.size))
  clear hb3
  go_wp2_with fail
  refine (list_any A n cap c _ H.out.1 hcp hm (H.out.2.1.below HB3.out)).mono ?_
  rintro e w4 ⟨A4, c4, rfl, hown, hb⟩
  have hI : Ints w4 A4 (c.take 18) := At.of_own hown
  have H4 := Lib.hid (And.intro hI (HB3.out.trans (hb.mono HB3.out.size)))
  clear hown hb hI
  go_wp2_with fail
  refine (lparts_any L k capl ts _ HL.out.1 (by omega) (HL.out.2.1.below H4.out.2)).mono ?_
  rintro e w5 ⟨A5, c5, rfl, hown, hb⟩
  have hI : Tps w5 A5 (ts.take 18) := At.of_own hown
  have hlt : (ts.take 18).length = min k 18 := by rw [List.length_take, HL.out.1]; omega
  have H5 := Lib.hid (And.intro hI (And.intro (H4.out.2.trans (hb.mono H4.out.2.size)) (And.intro (H4.out.1.below hb) hlt)))
  clear hown hb hI hlt
  go_wp2_with fail
  refine (checkrefute_any A4 (min n 18) c4 A5 (min k 18) c5 (c.take 18) (ts.take 18) _ H1.out.2.2 (by omega) H5.out.2.2.2 (by omega) H5.out.2.2.1 H5.out.1 (fun t ht => HL.out.2.2 t (List.mem_of_mem_take ht))).mono ?_
  rintro e w6 ⟨rfl, hb6⟩
  rw [ccE_take]
  have HB6 := Lib.hid (H5.out.2.1.trans (hb6.mono H5.out.2.1.size))
  clear hb6
  cases hv : valC c
  · have HG : Hid (crB (c.take 18) (ts.take 18) = false ∧ ccB c ps = false ∧ ccE c = 2) := Lib.hid ⟨by simp [crB, hv, valC_take], by simp [ccB, hv], by simp [ccE, hv]⟩
    have HV := Lib.hid hv
    rw [HG.out.1, HG.out.2.1, HG.out.2.2]
    clear hv
    go_wp2_with fail
    refine (rplayers_any A n cap c _ H.out.1 (by omega) (H.out.2.1.below HB6.out)).mono ?_
    rintro e w' ⟨rfl, rfl⟩
    rw [plr_bad HV.out]
    go_wp2_with fail
    refine (awake_any _).mono ?_
    rintro e w7 ⟨rfl, hb7⟩
    have HB7 := Lib.hid (HB6.out.trans (hb7.mono HB6.out.size))
    clear hb7
    go_wp2_with fail
    go_ret
    exact ⟨rfl, HB7.out⟩
  · have hpw := valC_pow hv
    obtain ⟨q, hq⟩ : ∃ q, q = plr c := ⟨_, rfl⟩
    rw [← hq] at hpw
    have hlen := (valC_iff.1 hv).1
    have hk4 : 1 ≤ q ∧ q ≤ 4 := hpw.2
    have hn16 : 2 ≤ n ∧ n ≤ 16 := by have := H.out.1; omega
    have hA : ∃ ad, A = some ad := by obtain ⟨ad, h, _⟩ := H.out.2.1.some_ (by omega); exact ⟨ad, h⟩
    obtain ⟨ad, rfl⟩ := hA
    have HV := Lib.hid (And.intro hv hq)
    have hne : ((q : Int) == 0) = false := by simp; omega
    have HG : Hid (crB (c.take 18) (ts.take 18) = refR c ts q ∧ ccB c ps = coreI c ps q ∧ ccE c = 0) := Lib.hid ⟨by rw [crB_take c ts hv, hq], by simp [ccB, hv, hq], by simp [ccE, hv]⟩
    rw [HG.out.1, HG.out.2.1, HG.out.2.2]
    obtain ⟨b1, hb1⟩ : ∃ b, b = coreI c ps q := ⟨_, rfl⟩
    obtain ⟨b2, hb2⟩ : ∃ b, b = refR c ts q := ⟨_, rfl⟩
    rw [← hb1, ← hb2]
    have HBB := Lib.hid (And.intro hb1 hb2)
    have e1 : (b1 == b1) = true := by simp
    have e2 : (b2 == b2) = true := by simp
    clear hv hpw hq hlen hb1 hb2
    go_wp2_with fail
    refine (rplayers_any (some ad) n cap c _ H.out.1 (by omega) (H.out.2.1.below HB6.out)).mono ?_
    rintro e w' ⟨rfl, rfl⟩
    rw [← HV.out.2]
    go_wp2_with fail
    refine (incore_any ad n cap X m capx q c ps _ H.out.1 HV.out.1 HV.out.2 H.out.2.2.1 (by omega) (H.out.2.1.below HB6.out) (H.out.2.2.2.1.below HB6.out) H.out.2.2.2.2).mono ?_
    rintro e w7 ⟨rfl, hb7⟩
    rw [← HBB.out.1]
    have HB7 := Lib.hid (HB6.out.trans (hb7.mono HB6.out.size))
    clear hb7
    go_wp2_with fail
    refine (rrefutes_any ad n cap L k capl q c ts _ H.out.1 HV.out.1 HV.out.2 HL.out.1 (by omega) (H.out.2.1.below HB7.out) (HL.out.2.1.below HB7.out) HL.out.2.2).mono ?_
    rintro e w8 ⟨rfl, hb8⟩
    rw [← HBB.out.2]
    have HB8 := Lib.hid (HB7.out.trans (hb8.mono HB7.out.size))
    clear hb8
    go_wp2_with fail
    refine (awake_any _).mono ?_
    rintro e w9 ⟨rfl, hb9⟩
    have HB9 := Lib.hid (HB8.out.trans (hb9.mono HB8.out.size))
    clear hb9
    go_wp2_with fail
    go_ret
    exact ⟨rfl, HB9.out⟩

/- GamesCore returns true for every costs: the walk. -/

theorem refR_of {c : List Int} {ts : List Pt} (hv : valC c = true) (hl : ts.length ≤ 18) (h : crB c ts = true) : refR c ts (plr c) = true := by
  rw [← crB_take c ts hv, crB_take18, List.take_of_length_le hl]
  exact h

set_option maxRecDepth 100000 in
set_option maxHeartbeats 4000000 in
theorem law_core (A : Option Addr) (n cap : Nat) (c : List Int) (w : World)
    (hl : c.length = n) (hcp : n ≤ cap) (hm : cap ≤ 9223372036854775807) (hc : Ints w A c) (_ : ∀ x ∈ c, -9223372036854775808 ≤ x ∧ x ≤ 9223372036854775807) :
    Calls Try.prog 13 #[.slice A n cap] w fun e w' => e = .returned (.bool true) ∧ Below w.heap.size w w' := by
  have H := Lib.hid (And.intro hl hc)
  clear hl hc
  go_enter Try.func13, Try.ntmps13
  go_wp2_with fail
  refine (list_any A n cap c _ H.out.1 hcp hm H.out.2).mono ?_
  rintro e w1 ⟨A1, c1, rfl, hown, hb⟩
  have hI : Ints w1 A1 (c.take 18) := At.of_own hown
  have hlt : (c.take 18).length = min n 18 := by rw [List.length_take, H.out.1]; omega
  have H1 := Lib.hid (And.intro hI (And.intro hb hlt))
  clear hown hb hI hlt
  go_wp2_with fail
  refine (core2_any A1 (min n 18) c1 (c.take 18) _ H1.out.2.2 (by omega) H1.out.1).mono ?_
  rintro e w2 ⟨Aq, kq, cq', rfl, hql, hQ, hqk, hqm, hb2⟩
  rw [coreQ_take] at hql hQ
  rw [coE_take]
  have HQ := Lib.hid (And.intro hql (And.intro hQ (And.intro hqk (And.intro hqm (H1.out.2.1.trans (hb2.mono H1.out.2.1.size))))))
  clear hql hQ hqk hqm hb2
  go_wp2_with fail
  refine (list_any A n cap c _ H.out.1 hcp hm (H.out.2.below HQ.out.2.2.2.2)).mono ?_
  rintro e w3 ⟨A3, c3, rfl, hown, hb⟩
  have hI : Ints w3 A3 (c.take 18) := At.of_own hown
  have H3 := Lib.hid (And.intro hI (And.intro (HQ.out.2.2.2.2.trans (hb.mono HQ.out.2.2.2.2.size)) (HQ.out.2.1.below hb)))
  clear hown hb hI
  go_wp2_with fail
  refine (refute2_any A3 (min n 18) c3 (c.take 18) _ H1.out.2.2 (by omega) H3.out.1).mono ?_
  rintro e w4 ⟨Ar, kr, cr', rfl, hrl, hR, hrk, hrm, hb4⟩
  rw [refQ_take] at hrl hR
  rw [rfE_take]
  have HR := Lib.hid (And.intro hrl (And.intro hR (And.intro hrk (And.intro hrm (And.intro (H3.out.2.1.trans (hb4.mono H3.out.2.1.size)) (H3.out.2.2.below hb4))))))
  clear hrl hR hrk hrm hb4
  go_wp2_with fail
  refine (rplayers_any A n cap c _ H.out.1 (by omega) (H.out.2.below HR.out.2.2.2.2.1)).mono ?_
  rintro e w' ⟨rfl, rfl⟩
  cases hv : valC c
  · have HG : Hid (coE c = 2 ∧ rfE c = 2) := Lib.hid ⟨by simp [coE, hv], by simp [rfE, hv]⟩
    obtain rfl : kq = 0 := by rw [← HQ.out.1]; simp [coreQ, hv]
    obtain rfl : kr = 0 := by rw [← HR.out.1]; simp [refQ, hv]
    rw [plr_bad hv, HG.out.1, HG.out.2]
    clear hv
    go_wp2_with fail
    refine (awake_any _).mono ?_
    rintro e w5 ⟨rfl, hb5⟩
    have HB5 := Lib.hid (HR.out.2.2.2.2.1.trans (hb5.mono HR.out.2.2.2.2.1.size))
    clear hb5
    go_wp2_with fail
    go_ret
    exact ⟨rfl, HB5.out⟩
  · have hpw := valC_pow hv
    obtain ⟨q, hq⟩ : ∃ q, q = plr c := ⟨_, rfl⟩
    rw [← hq] at hpw
    have hk4 : 1 ≤ q ∧ q ≤ 4 := hpw.2
    have hlen := (valC_iff.1 hv).1
    have hn16 : 2 ≤ n ∧ n ≤ 16 := by have := H.out.1; omega
    have hA : ∃ ad, A = some ad := by obtain ⟨ad, h, _⟩ := H.out.2.some_ (by omega); exact ⟨ad, h⟩
    obtain ⟨ad, rfl⟩ := hA
    have HV := Lib.hid (And.intro hv hq)
    have hne : ((q : Int) == 0) = false := by simp; omega
    rw [← hq]
    cases hs : (coreF c).isSome
    · obtain ⟨f1, f2, f3, f4, f5, f6⟩ := ref_facts hv hs
      have hRR := refR_of hv f5 f4
      rw [← hq] at hRR
      have HF := Lib.hid (And.intro hRR f6)
      obtain rfl : kq = 0 := by rw [← HQ.out.1, f3]; rfl
      have hb18 : kr ≤ 18 := by rw [← HR.out.1]; exact f5
      rw [f1, f2]
      clear f1 f2 f3 f4 f5 f6 hRR hv hs hpw hq hlen
      go_wp2_with fail
      refine (lown_any Ar kr cr' (refQ c) _ HR.out.1 hb18 HR.out.2.1).mono ?_
      rintro e w5 ⟨A5, c5, rfl, hT, hb⟩
      have H5 := Lib.hid (And.intro hT (HR.out.2.2.2.2.1.trans (hb.mono HR.out.2.2.2.2.1.size)))
      clear hT hb
      go_wp2_with fail
      refine (rrefutes_any ad n cap A5 kr c5 q c (refQ c) _ H.out.1 HV.out.1 HV.out.2 HR.out.1 (by omega) (H.out.2.below H5.out.2) H5.out.1 HF.out.2).mono ?_
      rintro e w6 ⟨rfl, hb6⟩
      rw [HF.out.1]
      have HB6 := Lib.hid (H5.out.2.trans (hb6.mono H5.out.2.size))
      clear hb6
      go_wp2_with fail
      refine (awake_any _).mono ?_
      rintro e w7 ⟨rfl, hb7⟩
      have HB7 := Lib.hid (HB6.out.trans (hb7.mono HB6.out.size))
      clear hb7
      go_wp2_with fail
      go_ret
      exact ⟨rfl, HB7.out⟩
    · obtain ⟨f1, f2, f3, f4, f5, f6⟩ := core_facts hv hs
      have hCI : coreI c ((coreQ c).map pr) q = true := by
        unfold ccB at f4
        rwa [hv, if_pos rfl, ← hq] at f4
      have HF := Lib.hid (And.intro hCI f6)
      obtain rfl : kr = 0 := by rw [← HR.out.1, f3]; rfl
      have hb4 : kq ≤ 4 := by rw [← HQ.out.1, f5, ← hq]; exact hk4.2
      rw [f1, f2]
      clear f1 f2 f3 f4 f5 f6 hCI hv hs hpw hq hlen
      go_wp2_with fail
      refine (incore_any ad n cap Aq kq cq' q c ((coreQ c).map pr) _ H.out.1 HV.out.1 HV.out.2 (by rw [List.length_map]; exact HQ.out.1) (by omega) (H.out.2.below HR.out.2.2.2.2.1) HR.out.2.2.2.2.2.prs HF.out.2).mono ?_
      rintro e w5 ⟨rfl, hb5⟩
      rw [HF.out.1]
      have HB5 := Lib.hid (HR.out.2.2.2.2.1.trans (hb5.mono HR.out.2.2.2.2.1.size))
      clear hb5
      go_wp2_with fail
      refine (awake_any _).mono ?_
      rintro e w6 ⟨rfl, hb6⟩
      have HB6 := Lib.hid (HB5.out.trans (hb6.mono HB5.out.size))
      clear hb6
      go_wp2_with fail
      go_ret
      exact ⟨rfl, HB6.out⟩
end Go.Proofs.Ytbidboagaoifaaa
