/- Laws and contracts that the proof of SplitNames uses, part 4. -/
import Derived.Test.YtkljambjdiblkaaSplitNamesM3
import Derived.Laws.EntriesVeiled
import Derived.Test.YtkljambjdiblkaaSplitNamesM2
import Derived.Test.YtkljambjdiblkaaSplitNamesM1
import Derived.Test.YtkljambjdiblkaaProg
namespace Go.Proofs.Ytkljambjdiblkaa
open Go.RowKit

/- Contract: circle of package split. -/

theorem YX.fix.alloc {X : YX} {w : World} (h : X.fix w) (o : Obj) : X.fix (w.alloc o) := by
  obtain ⟨fv, hf⟩ := h.fnd
  exact ⟨h.bv.alloc _, h.bd.alloc _, h.bg.alloc _, h.bel.alloc (by have := h.size; omega) _, fv, hf.alloc _⟩

/-- What circle leaves. -/
def CircPost (l : List Nat) (w : World) (e : Ending) (w' : World) : Prop :=
  ∃ A c, e = .returned (.slice (some A) l.length c) ∧ l.length ≤ c ∧ c ≤ 9223372036854775807 ∧ Ints w' (some A) (natI l) ∧ Below w.heap.size w w' ∧ w.heap.size ≤ A.block

set_option maxRecDepth 100000 in
set_option maxHeartbeats 6400000 in
theorem circle_any (A : Option Addr) (n cap : Nat) (D : Option Addr) (m capd : Nat) (V : List (List Int)) (d : List Int) (l0 : List Nat) (w : World) (hl : V.length = n) (hn : 1 ≤ n ∧ n ≤ 4) (hld : d.length = m) (hm : m ≤ 1000)
    (hr : ∀ i, i < n → (rowV V i).length = m ∧ ∀ x ∈ rowV V i, 0 ≤ x ∧ x ≤ 100) (hV : Mat w A V) (hD : Ints w D d) (hsome : cycO V d n = some l0) :
    Calls Try.prog 72 #[.slice A n cap, .slice D m capd] w (CircPost l0 w) := by
  obtain ⟨X, hX⟩ : ∃ X : YX, X = { w0 := w, A := A, D := D, n := n, cap := cap, m := m, capd := capd, B := w.heap.size, base := w.heap.size + 4, V := V, d := d } := ⟨_, rfl⟩
  have hok : X.ok := by rw [hX]; exact ⟨rfl, hn, hm, hl, hld, hr, hV, hD, rfl⟩
  have e1 : X.B = w.heap.size := by rw [hX]
  have e2 : X.n = n := by rw [hX]
  have e3 : X.V = V := by rw [hX]
  have e4 : X.d = d := by rw [hX]
  have e5 : X.base = w.heap.size + 4 := by rw [hX]
  have e6 : X.w0 = w := by rw [hX]
  have e7 : X.A = A := by rw [hX]
  have e8 : X.cap = cap := by rw [hX]
  have hfix0 : ∀ F : Value, F = .func (.func 98) #[] X.caps → X.fix ((((w.alloc (.cells #[.slice A n cap] 61)).alloc (.cells #[.slice D m capd] 64)).alloc (.cells #[.slice none 0 0] 23)).alloc (.cells #[F] 34)) := by
    intro F hF
    subst hF
    refine ⟨?_, ?_, ?_, ?_, .slice none 0 0, ?_⟩
    · rw [e1, e2, e7, e8]; exact (((Blk.new _ _ _ rfl).alloc _).alloc _).alloc _
    · rw [e1]
      have h : Blk ((((w.alloc (.cells #[.slice A n cap] 61)).alloc (.cells #[.slice D m capd] 64)).alloc (.cells #[.slice none 0 0] 23)).alloc (.cells #[.func (.func 98) #[] X.caps] 34)) (w.heap.size + 1) 64 #[.slice D m capd] := ((Blk.new _ _ _ (by simp)).alloc _).alloc _
      rw [hX] at h ⊢
      exact h
    · rw [e1]; exact Blk.new _ _ _ (by simp)
    · rw [e1, e6]
      exact (((((Below.refl _ _).alloc (Nat.le_refl _) _).alloc (by go_size) _).alloc (by go_size) _).alloc (by go_size) _)
    · rw [e1]; exact (Blk.new _ _ _ (by simp)).alloc _
  have hcaps : Value.func (.func 98) #[] #[.pointer (some ⟨w.heap.size + 1 + 1, 0, none⟩), .pointer (some ⟨w.heap.size, 0, none⟩), .pointer (some ⟨w.heap.size + 1, 0, none⟩), .pointer (some ⟨w.heap.size + 1 + 1 + 1, 0, none⟩)] = .func (.func 98) #[] X.caps := by
    unfold YX.caps; rw [e1]
  have hgrow : ∀ (r i long : Nat) (w8 : World), 1 + r = long → long ≤ 4 → i < n → X.fix w8 → Calls Try.prog 98 #[.slice (some ⟨w8.heap.size, 0, none⟩) 1 1, .int .i64 long, .pointer (some ⟨w.heap.size + 1 + 1, 0, none⟩), .pointer (some ⟨w.heap.size, 0, none⟩), .pointer (some ⟨w.heap.size + 1, 0, none⟩), .pointer (some ⟨w.heap.size + 1 + 1 + 1, 0, none⟩)] (w8.alloc (.cells #[.int .i64 (i : Int)] 3))
      fun e w' => e = .returned (.bool (growS V d n r [i]).isSome) ∧ X.fix w' ∧ ∀ l, growS V d n r [i] = some l → X.found l w' := by
    intro r i long w8 h1 h2 h3 h4
    have hs := h4.size
    have h := grow_any X hok r [i] w8.heap.size 1 long (w8.alloc (.cells #[.int .i64 (i : Int)] 3)) (by simpa using h1) h2 (h4.alloc _) (by simp) (by intro x hx; simp at hx; omega) (blk_own (m := 1) (s := natI [i]) (Blk.new _ _ _ rfl) (by omega) rfl (by omega))
    rw [e1] at h
    refine Calls.mono h ?_
    rintro e w' ⟨he, hf, _, _, hfd⟩
    rw [e2, e3, e4] at he hfd
    exact ⟨he, hf, hfd⟩
  have H := Lib.hid (And.intro (hfix0 _ hcaps) (And.intro hgrow (And.intro hsome (And.intro e1 (And.intro e6 (And.intro e2 (And.intro e7 e8)))))))
  clear hfix0 hcaps hgrow hsome hX hok e1 e2 e3 e4 e5 e6 e7 e8 hl hld hr hV hD
  go_enter Try.func72, Try.ntmps72
  go_wp2_with fail
  go_loopw [7] (fun kv wr => ∃ k : Nat, 2 ≤ k ∧ k ≤ n + 1 ∧ kv = .int .i64 k ∧ (∀ k', 2 ≤ k' → k' < k → (perms n k').find? (isC V d) = none) ∧ X.fix wr) (fun kv _ => n + 2 - (intOf kv).toNat)
  case atStart => exact ⟨2, by omega, by omega, rfl, fun k' _ _ => by omega, H.out.1⟩
  case round =>
    obtain ⟨k, hk2, hkn, rfl, hno, hf⟩ := hrel
    obtain ⟨wo, rfl⟩ : ∃ wo : World, wo = wr := ⟨_, rfl⟩
    have HR := Lib.hid (And.intro hno hf)
    have a1 : wo.cell? ⟨w.heap.size, 0, none⟩ = some (.slice A n cap) := by
      have h := hf.bv.at1.1
      rw [H.out.2.2.2.1, H.out.2.2.2.2.2.1, H.out.2.2.2.2.2.2.1, H.out.2.2.2.2.2.2.2] at h
      exact h
    clear hno hf
    by_cases hle : k ≤ n
    · have l1 : (k : Int) ≤ (n : Int) := by omega
      go_wp2_with fail
      clear a1
      go_loopw [18] (fun iv wr => ∃ i : Nat, i ≤ n ∧ iv = .int .i64 i ∧ (∀ i', i' < i → growS V d n (k - 1) [i'] = none) ∧ X.fix wr) (fun iv _ => n - (intOf iv).toNat)
      case atStart => exact ⟨0, Nat.zero_le _, rfl, fun i hi => by omega, HR.out.2⟩
      case round =>
        obtain ⟨i, hi, rfl, hnoi, hf⟩ := hrel
        have HI := Lib.hid (And.intro hnoi hf)
        have hsz := hf.size
        clear hnoi
        by_cases hlt : i < n
        · have l2 : (i : Int) < (n : Int) := by omega
          have a2 : wr.cell? ⟨w.heap.size + 1 + 1 + 1, 0, none⟩ = some (.func (.func 98) #[] #[.pointer (some ⟨w.heap.size + 1 + 1, 0, none⟩), .pointer (some ⟨w.heap.size, 0, none⟩), .pointer (some ⟨w.heap.size + 1, 0, none⟩), .pointer (some ⟨w.heap.size + 1 + 1 + 1, 0, none⟩)]) := by
            have h := hf.bg.at1.1
            unfold YX.caps at h
            rw [H.out.2.2.2.1] at h
            exact h
          clear hf
          go_wp2_with fail
          refine (H.out.2.1 (k - 1) i k wr (by omega) (by omega) hlt HI.out.2).mono ?_
          rintro e w9 ⟨rfl, hf9, hfd9⟩
          clear a2
          cases hres : growS V d n (k - 1) [i] with
          | none =>
            have HN : Hid (∀ i', i' < i + 1 → growS V d n (k - 1) [i'] = none) := Lib.hid fun i' hi' => by
              rcases Nat.lt_succ_iff_lt_or_eq.1 hi' with h | h
              · exact HI.out.1 i' h
              · rw [h]; exact hres
            have HF := Lib.hid hf9
            clear hres hf9 hfd9
            simp only [Option.isSome]
            go_wp2_with fail
            go_roundw
            case rel => exact ⟨i + 1, by omega, by go_num, HN.out, HF.out⟩
            case measure => simp [intOf]; omega
          | some l =>
            have hcyc : cycO V d n = some l := by
              unfold cycO
              refine findSome_range' (k := k) hk2 (by omega) HR.out.1 ?_
              obtain ⟨k1, hk1⟩ : ∃ k1, k = k1 + 1 := ⟨k - 1, by omega⟩
              rw [hk1, perms_grow]
              rw [hk1, Nat.add_sub_cancel] at hres
              exact range_findSome_some hlt (fun j hj => by have := HI.out.1 j hj; rwa [hk1, Nat.add_sub_cancel] at this) hres
            have hll : l = l0 := by
              have h := H.out.2.2.1
              rw [hcyc] at h
              injection h
            obtain ⟨g, kk, hfb, hk1, hk2', hI, hgB⟩ := hfd9 l hres
            rw [H.out.2.2.2.1] at hgB
            rw [H.out.2.2.2.1] at hfb
            obtain ⟨b1, _⟩ := hfb.at1
            have hbel : Below w.heap.size w w9 := by have h := hf9.bel; rwa [H.out.2.2.2.1, H.out.2.2.2.2.1] at h
            have HF := Lib.hid (And.intro hll (And.intro hI hbel))
            obtain ⟨ll, hll2⟩ : ∃ ll, ll = l.length := ⟨_, rfl⟩
            rw [← hll2] at b1 hk1
            have HLL := Lib.hid hll2
            clear hres hcyc hll hf9 hfd9 hfb hI hbel hll2
            simp only [Option.isSome]
            go_wp2_with fail
            go_ret
            rw [← HF.out.1]
            refine ⟨⟨g, 0, none⟩, kk, ?_, ?_, hk2', HF.out.2.1, HF.out.2.2, hgB⟩
            · rw [← HLL.out]; rfl
            · rw [← HLL.out]; exact hk1
        · obtain rfl : i = n := by omega
          have HN : Hid (∀ k', 2 ≤ k' → k' < k + 1 → (perms i k').find? (isC V d) = none) := Lib.hid (fun k' h2 hk' => by
            rcases Nat.lt_succ_iff_lt_or_eq.1 hk' with h | h
            · exact HR.out.1 k' h2 h
            · obtain ⟨k1, hk1⟩ : ∃ k1, k = k1 + 1 := ⟨k - 1, by omega⟩
              rw [h, hk1, perms_grow]
              exact range_findSome_none fun j hj => by have := HI.out.1 j hj; rwa [hk1, Nat.add_sub_cancel] at this)
          clear hf
          go_wp2_with fail
          go_roundw
          case rel => exact ⟨k + 1, by omega, by omega, by go_num, HN.out, HI.out.2⟩
          case measure => simp [intOf]; omega
    · exfalso
      obtain rfl : k = n + 1 := by omega
      have h := H.out.2.2.1
      unfold cycO at h
      obtain ⟨k', hk', hf⟩ := List.exists_of_findSome?_eq_some h
      have h2 := List.mem_range'_1.1 hk'
      rw [HR.out.1 k' h2.1 (by omega)] at hf
      cases hf

/- Contracts: whether somebody is envied, as Cycles of package split asks. -/

set_option maxHeartbeats 800000 in
theorem cyc1_any (p : Nat × Nat) (Bl j : Nat) (w : World) (hc : w.cell? ⟨Bl, 0, none⟩ = some (.int .i64 (j : Int))) :
    Calls Try.prog 71 #[.agg #[.int .i64 (p.1 : Int), .int .i64 (p.2 : Int)], .pointer (some ⟨Bl, 0, none⟩)] w fun e w' => e = .returned (.bool (p.2 == j)) ∧ Below w.heap.size w w' := by
  have hlt := lt_of_cell hc
  have hne : Bl ≠ w.heap.size := by have : Bl < w.heap.size := hlt; omega
  have hb : ((p.2 : Int) == (j : Int)) = (p.2 == j) := by rw [Bool.eq_iff_iff]; simp; omega
  have c0 : ∀ o, (w.alloc o).cell? ⟨Bl, 0, none⟩ = some (.int .i64 (j : Int)) := fun o => (World.cell?_alloc_lt _ _ _ hlt).trans hc
  have hB : Blk (w.alloc (.cells #[.int .i64 (p.1 : Int), .int .i64 (p.2 : Int)] 38)) w.heap.size 38 #[.int .i64 (p.1 : Int), .int .i64 (p.2 : Int)] := Blk.new _ _ _ rfl
  obtain ⟨a1, a2, _, _⟩ := hB.at2
  have HB := Lib.hid hb
  clear hc hlt hb hB
  go_enter Try.func71, Try.ntmps71
  go_wp2_with fail
  go_ret
  exact ⟨ret_bool HB.out, (Below.refl _ _).alloc (Nat.le_refl _) _⟩

/-- What IndexFunc leaves. -/
def IdxPost (b : Bool) (w : World) (e : Ending) (w' : World) : Prop := ∃ r : Int, e = .returned (.int .i64 r) ∧ decide (0 ≤ r) = b ∧ Below w.heap.size w w'

set_option maxRecDepth 100000 in
set_option maxHeartbeats 1600000 in
theorem indexfP_any (A : Option Addr) (q c Bl j : Nat) (ps : List (Nat × Nat)) (w : World) (hl : ps.length = q) (hq : q ≤ 1000) (hP : Pairs w A ps) (hc : w.cell? ⟨Bl, 0, none⟩ = some (.int .i64 (j : Int))) :
    Calls Try.prog 97 #[.slice A q c, .func (.func 71) #[] #[.pointer (some ⟨Bl, 0, none⟩)]] w (IdxPost (ps.any fun p => p.2 == j) w) := by
  have H := Lib.hid (And.intro hl (And.intro hP hc))
  clear hl hP hc
  go_enter Try.func97, Try.ntmps97
  go_wp2_with fail
  go_loopw [8] (fun iv wr => ∃ k : Nat, k ≤ q ∧ iv = .int .i64 k ∧ (ps.take k).any (fun p => p.2 == j) = false ∧ Below w.heap.size w wr) (fun iv _ => q - (intOf iv).toNat)
  case atStart => exact ⟨0, Nat.zero_le _, rfl, by simp, Below.refl _ _⟩
  case round =>
    obtain ⟨k, hk, rfl, hno, hbl⟩ := hrel
    have HR := Lib.hid (And.intro hno hbl)
    clear hno hbl
    by_cases hlt : k < q
    · obtain ⟨p, hp⟩ : ∃ p, ps[k]? = some p := ⟨_, List.getElem?_eq_getElem (by have := H.out.1; omega)⟩
      obtain ⟨ad, rfl, _, hcc⟩ := (H.out.2.1.below HR.out.2).some_ (by have := H.out.1; omega)
      obtain ⟨c1, c2⟩ := hcc k p hp
      have HP := Lib.hid hp
      have l1 : (k : Int) < (q : Int) := by omega
      clear hp hcc
      go_wp2_with fail
      refine (cyc1_any p Bl j _ ((HR.out.2.cell (lt_of_cell H.out.2.2)).trans H.out.2.2)).mono ?_
      rintro e w2 ⟨rfl, hb2⟩
      have H2 := Lib.hid (HR.out.2.trans (hb2.mono HR.out.2.size))
      clear hb2
      cases hv : p.2 == j
      · have HN : Hid ((ps.take (k + 1)).any (fun p => p.2 == j) = false) := Lib.hid (by rw [List.take_add_one, HP.out, List.any_append, HR.out.1]; simpa using hv)
        clear hv
        go_wp2_with fail
        go_roundw
        case rel => exact ⟨k + 1, by omega, by go_num, HN.out, H2.out⟩
        case measure => simp [intOf]; omega
      · have HF : Hid (ps.any (fun p => p.2 == j) = true) := Lib.hid (by rw [List.any_eq_true]; exact ⟨p, List.mem_of_getElem? HP.out, hv⟩)
        clear hv
        go_wp2_with fail
        go_ret
        exact ⟨(k : Int), rfl, by rw [HF.out]; exact decide_eq_true (by omega), H2.out⟩
    · obtain rfl : k = q := by omega
      have HF : Hid (ps.any (fun p => p.2 == j) = false) := Lib.hid (by have h := HR.out.1; rwa [List.take_of_length_le (by have := H.out.1; omega)] at h)
      go_wp2_with fail
      go_ret
      exact ⟨-1, rfl, by rw [HF.out]; rfl, HR.out.2⟩

set_option maxHeartbeats 800000 in
theorem containsfP_any (A : Option Addr) (q c Bl j : Nat) (ps : List (Nat × Nat)) (w : World) (hl : ps.length = q) (hq : q ≤ 1000) (hP : Pairs w A ps) (hc : w.cell? ⟨Bl, 0, none⟩ = some (.int .i64 (j : Int))) :
    Calls Try.prog 70 #[.slice A q c, .func (.func 71) #[] #[.pointer (some ⟨Bl, 0, none⟩)]] w fun e w' => e = .returned (.bool (ps.any fun p => p.2 == j)) ∧ Below w.heap.size w w' := by
  have H := Lib.hid (And.intro hl (And.intro hP hc))
  clear hl hP hc
  go_enter Try.func70, Try.ntmps70
  go_wp2_with fail
  refine (indexfP_any A q c Bl j ps _ H.out.1 hq H.out.2.1 H.out.2.2).mono ?_
  rintro e w2 ⟨r, rfl, hr, hb⟩
  have HB := Lib.hid (And.intro hr hb)
  clear hr hb
  go_wp2_with fail
  go_ret
  exact ⟨ret_bool HB.out.1, HB.out.2⟩

theorem envied_iff {V : List (List Int)} {d : List Int} {n j : Nat} (hj : j < n) : ((envL V d n).any fun p => p.2 == j) = !((List.range n).all fun i => !envB V d i j) := by
  rw [Bool.eq_iff_iff, List.any_eq_true, Bool.not_eq_true', List.all_eq_false]
  constructor
  · rintro ⟨p, hp, he⟩
    obtain ⟨h1, h2, h3⟩ := mem_envL.1 hp
    have e : p.2 = j := by simpa using he
    rw [e] at h3
    exact ⟨p.1, List.mem_range.2 h1, by simp [h3]⟩
  · rintro ⟨i, hi, he⟩
    have h3 : envB V d i j = true := by simpa using he
    exact ⟨(i, j), mem_envL.2 ⟨List.mem_range.1 hi, hj, h3⟩, by simp⟩

/- make([]int, n) in this seat's program. -/
theorem info_int0 : (Try.prog.info? 3).map (fun i => (i.zero, i.size, i.bytes)) = some (some (.int .i64 0), 1, 8) := by kernel_rfl
/-- make([]int, n). -/
theorem make_ints (n : Nat) (hn : n ≤ 1000000) (w : World) : (Instr.makeSlice 23 (.int .i64 n) (.int .i64 n)).run Try.prog w = .ok (.slice (some ⟨w.heap.size, 0, none⟩) n n) (w.alloc (.cells (arr (List.replicate n 0)) 3)) := by
  obtain ⟨i0, hi, hz0, hz1, hz2⟩ := info_parts info_int0
  have hr := run_make (P := Try.prog) w 23 3 i0 (.int .i64 0) Try.underlying23 hi hz0 .i64 .i64 n n (by omega) (by omega) (by rw [hz2]; omega) (by omega)
  simp only [Int.toNat_natCast, hz1] at hr
  rw [hr, arr_zeros]


/- Contract: Cycles of the reference. -/

theorem calmI_none {V : List (List Int)} {d : List Int} {n : Nat} (h : calmO V d n = none) : calmI V d n = -1 := by unfold calmI; rw [h]
theorem calmI_some {V : List (List Int)} {d : List Int} {n j : Nat} (h : calmO V d n = some j) : calmI V d n = (j : Int) := by unfold calmI; rw [h]
theorem cycTo_succ (V : List (List Int)) (n m g : Nat) {d : List Int} {j : Nat} (h : settle V n 3000 (cycTo V n m g) = d) (hj : calmO V d n = some j) : cycTo V n m (g + 1) = d.set g (j : Int) := by
  simp only [cycTo, h, hj, Option.getD_some]
theorem potN_lt {V : List (List Int)} {d : List Int} {n : Nat} (hr : ∀ i, i < n → ∀ x ∈ rowV V i, 0 ≤ x ∧ x ≤ 100) : potN V d n < 3000 := by
  have : 0 ≤ ownSum V d n := by
    unfold ownSum
    have := sumN_mono (f := fun _ => 0) (g := fun i => wor V d i (i : Int)) n (fun i hi => (worTo_bd (hr i hi) _ _ _).1)
    rwa [sumN_zero] at this
  unfold potN; omega
theorem cyc_facts {V : List (List Int)} {d : List Int} {n : Nat} (hn : 1 ≤ n ∧ n ≤ 4) (h : calmO V d n = none) : ∃ l, cycO V d n = some l ∧ 2 ≤ l.length ∧ l.length ≤ n ∧ l.Nodup ∧ (∀ x ∈ l, x < n) ∧ isC V d l = true := by
  obtain ⟨k, l, h2, hk, hc, hl, hi⟩ := cyc_exists hn h
  obtain ⟨e, h3, h4⟩ := mem_perms hl
  exact ⟨l, hc, by omega, by omega, h3, h4, hi⟩

set_option maxRecDepth 100000 in
set_option maxHeartbeats 6400000 in
theorem r1cycles_any (A : Option Addr) (n cap m : Nat) (V : List (List Int)) (w : World) (hl : V.length = n) (hn4 : 1 ≤ n ∧ n ≤ 4) (hm : m = (rowV V 0).length) (hm7 : 1 ≤ m ∧ m ≤ 7) (hr : ∀ i, i < n → (rowV V i).length = m ∧ ∀ x ∈ rowV V i, 0 ≤ x ∧ x ≤ 100) (hV : Mat w A V) :
    Calls Try.prog 40 #[.slice A n cap] w fun e w' => ∃ g c, e = .returned (.slice (some ⟨g, 0, none⟩) m c) ∧ m ≤ c ∧ c ≤ 9223372036854775807 ∧ Ints w' (some ⟨g, 0, none⟩) (cycTo V n m m) ∧ Below w.heap.size w w' := by
  have hmk := make_ints m (by omega)
  obtain ⟨ad0, rfl, _, hcc0⟩ := hV.some_ (by omega)
  obtain ⟨A0, c0, h01, hrest0⟩ := hcc0 0 _ (List.getElem?_eq_getElem (by omega))
  have er0 : (V[0]'(by omega)).length = m := by rw [hm, rowV_get (List.getElem?_eq_getElem (by omega))]
  rw [er0] at h01
  have c00 : w.cell? ad0 = some (.slice A0 m c0) := h01
  have H := Lib.hid (And.intro hl (And.intro hV (And.intro hm hr)))
  have l0 : (0 : Int) < (n : Int) := by omega
  clear hrest0 hl hV hm hr hcc0 h01 er0
  go_enter Try.func40, Try.ntmps40
  go_wp2_with fail
  obtain ⟨g, hg⟩ : ∃ g, g = w.heap.size := ⟨_, rfl⟩
  have hgw : w.heap.size ≤ g := by omega
  have hB2 : Blk (w.alloc (.cells (arr (List.replicate m 0)) 3)) g 3 (arr (negs m 0)) := by
    have e : negs m 0 = List.replicate m 0 := by simp [negs]
    rw [e]; exact Blk.new _ _ _ hg
  have hw2 : Below w.heap.size w (w.alloc (.cells (arr (List.replicate m 0)) 3)) := (Below.refl _ _).alloc (Nat.le_refl _) _
  have H2 := Lib.hid (And.intro hB2 hw2)
  clear hB2 hw2
  rw [← hg]
  clear hmk hg
  go_loopw [20] (fun iv wr => ∃ k : Nat, k ≤ m ∧ iv = .int .i64 k ∧ Blk wr g 3 (arr (negs m k)) ∧ Below w.heap.size w wr) (fun iv _ => m - (intOf iv).toNat)
  case atStart => exact ⟨0, Nat.zero_le _, rfl, H2.out.1, H2.out.2⟩
  case round =>
    obtain ⟨k, hk, rfl, hB, hbl⟩ := hrel
    have HR0 := Lib.hid (And.intro hB hbl)
    clear hB hbl
    by_cases hltk : k < m
    · obtain ⟨ob, hob⟩ : ∃ ob, (arr (negs m k))[k]? = some ob := ⟨_, Array.getElem?_eq_getElem (by rw [arr_size, negs_length hk]; exact hltk)⟩
      have c1 : wr.cell? ⟨g, k, none⟩ = some ob := by rw [HR0.out.1.cell, hob]
      have f1 := HR0.out.1.frozen k
      have hB2 := HR0.out.1.set_ k (.int .i64 (-1))
      have e2 : (arr (negs m k)).setIfInBounds k (.int .i64 (-1)) = arr (negs m (k + 1)) := by
        rw [arr_set]
        congr 1
        unfold negs
        rw [List.set_append_right _ _ (by simp), List.length_replicate, Nat.sub_self, show m - k = (m - (k + 1)) + 1 by omega, List.replicate_succ, List.set_cons_zero, List.replicate_succ']
        simp
      rw [e2] at hB2
      have HB2 := Lib.hid hB2
      have l1 : (k : Int) < (m : Int) := by omega
      clear hob hB2 e2
      go_wp2_with fail
      go_roundw
      case rel => exact ⟨k + 1, by omega, by go_num, HB2.out, HR0.out.2.setCell hgw _⟩
      case measure => simp [intOf]; omega
    · obtain rfl : m = k := by omega
      have hB3 := HR0.out.1
      rw [negs_all] at hB3
      have H3 := Lib.hid (And.intro (blk_own (m := m) hB3 hgw (by simp) (by omega)) HR0.out.2)
      clear hB3
      go_wp2_with fail
      go_loopg [3, 29] m (fun gh dv iv wr => ∃ (t gd c : Nat), gh = m - t ∧ t ≤ m ∧ iv = .int .i64 t ∧ dv = .slice (some ⟨gd, 0, none⟩) m c ∧ wr.ownsRow w.heap.size 3 1 (.slice (some ⟨gd, 0, none⟩) m c) m ((cycTo V n m t).map (Value.int .i64)) ∧ partD n m (cycTo V n m t) ∧ Below w.heap.size w wr)
      case atStart => exact ⟨0, g, m, rfl, Nat.zero_le _, rfl, rfl, H3.out.1, partD_zero n m, H3.out.2⟩
      case round =>
        obtain ⟨t, gd, c, rfl, ht, rfl, rfl, hown, hpd, hbl⟩ := hrel
        obtain ⟨wo, rfl⟩ : ∃ wo : World, wo = wr := ⟨_, rfl⟩
        have HR := Lib.hid (And.intro hown (And.intro hpd hbl))
        clear hown hpd hbl
        by_cases hlt : t < m
        · have l1 : (t : Int) < (m : Int) := by omega
          go_wp2_with fail
          refine (r1calm_any (some ad0) n cap (some ⟨gd, 0, none⟩) m c V (cycTo V n m t) _ H.out.1 (by omega) HR.out.2.1.1 (by omega) H.out.2.2.2 (H.out.2.1.below HR.out.2.2) (At.of_own HR.out.1)).mono ?_
          rintro e w' ⟨rfl, rfl⟩
          go_wp2_with fail
          go_loopg [3, 6] (potN V (cycTo V n m t) n) (fun gh dv av wr => ∃ (gd c F : Nat) (d : List Int), gh = potN V d n ∧ dv = .slice (some ⟨gd, 0, none⟩) m c ∧ av = .int .i64 (calmI V d n) ∧ settle V n 3000 (cycTo V n m t) = settle V n F d ∧ potN V d n < F ∧ partD n m d ∧ wr.ownsRow w.heap.size 3 1 (.slice (some ⟨gd, 0, none⟩) m c) m (d.map (Value.int .i64)) ∧ Below w.heap.size w wr)
          case atStart => exact ⟨gd, c, 3000, cycTo V n m t, rfl, rfl, rfl, rfl, potN_lt (fun i hi => (H.out.2.2.2 i hi).2), HR.out.2.1, HR.out.1, HR.out.2.2⟩
          case round =>
            obtain ⟨gd, c, F, d, rfl, rfl, rfl, hset, hF, hpd, hown, hbl⟩ := hrel
            obtain ⟨wp, rfl⟩ : ∃ wp : World, wp = wr := ⟨_, rfl⟩
            have HX := Lib.hid (And.intro hset (And.intro hF (And.intro hpd (And.intro hown hbl))))
            clear hset hF hpd hown hbl
            cases hc : calmO V d n with
            | some j =>
              have hj := (calm_lt hc).1
              have HC := Lib.hid hc
              rw [calmI_some hc]
              have hset2 : settle V n 3000 (cycTo V n m t) = d := by rw [HX.out.1, settle_calm hc]
              obtain ⟨p1, p2, p3⟩ := own_put HX.out.2.2.2.1 hlt (j : Int)
              have HN := Lib.hid (And.intro (cycTo_succ V n m t hset2 hc) p3)
              have l3 : ¬ (j : Int) < 0 := by omega
              have hgb := (own_some HX.out.2.2.2.1 (by omega))
              obtain ⟨g', hge, hgb, _⟩ := hgb
              injection hge with hge
              injection hge with hge
              subst hge
              generalize d.getD t 0 = od at p2
              clear hc hset2 p3
              go_wp2_with fail
              go_roundg (m - (t + 1))
              case measure => omega
              case rel => exact ⟨t + 1, gd, c, rfl, by omega, by go_num, rfl, by rw [HN.out.1]; exact HN.out.2, by rw [HN.out.1]; exact partD_set HX.out.2.2.1 hj, HX.out.2.2.2.2.setCell hgb _⟩
            | none =>
              obtain ⟨l, hcyc, hl2, hln, hnd, hlb, hic⟩ := cyc_facts hn4 hc
              rw [calmI_none hc]
              have hpot := potN_rot hn4.2 hm7.2 HX.out.2.2.1.1 (fun i hi => (H.out.2.2.2 i hi).2) hnd hlb (by rintro rfl; simp at hl2) hic
              have HC := Lib.hid (And.intro hc (And.intro hcyc (And.intro hnd (And.intro hlb hpot))))
              obtain ⟨lk, hlk⟩ : ∃ lk, lk = l.length := ⟨_, rfl⟩
              rw [← hlk] at hl2 hln
              have HLK := Lib.hid hlk
              clear hc hcyc hnd hlb hic hpot hlk
              go_wp2_with fail
              refine (r1cycle_any (some ad0) n cap (some ⟨gd, 0, none⟩) m c V d l _ H.out.1 hn4 HX.out.2.2.1.1 (by omega) H.out.2.2.2 (H.out.2.1.below HX.out.2.2.2.2) (At.of_own HX.out.2.2.2.1) HC.out.2.1).mono ?_
              rintro e w2 ⟨lA, lc, rfl, hlc1, hlc2, hIl, hb2⟩
              rw [← HLK.out] at hlc1 ⊢
              have hb2s : w.heap.size ≤ w2.heap.size := (HX.out.2.2.2.2.trans (hb2.mono HX.out.2.2.2.2.size)).size
              have H2 := Lib.hid (And.intro hIl (And.intro (own_below HX.out.2.2.2.1 hb2) (HX.out.2.2.2.2.trans (hb2.mono HX.out.2.2.2.2.size))))
              clear hIl hb2
              have hsz2 := hb2s
              go_wp2_with (at_builtin; refine appN sty_int rfl _ _ rfl w2.heap.size (some ⟨w2.heap.size, 0, none⟩) 0 0 [] rfl ?d1 (some ⟨gd, 0, none⟩) m c (d.map (Value.int .i64)) (fun h => by cases h) ?d2 ?d3 ?d4 rfl (by omega) (by go_size) ?_)
              case d1 => exact own_new (w := w2) 3 #[] (show 0 ≤ maxLen by decide)
              case d2 => rw [List.length_map, Nat.mul_one]; exact HX.out.2.2.1.1
              case d3 => exact At.below (At.of_own H2.out.2.1) ((Below.refl _ _).alloc (Nat.le_refl _) _)
              case d4 => exact ints_one _
              intro A6 k6 w6 hown6 _ hbl6 hk61 hk62
              have hb6 : Below w2.heap.size w2 w6 := ((Below.refl w2.heap.size w2).alloc (Nat.le_refl _) _).trans hbl6
              obtain ⟨gn, rfl, hgn, _⟩ := own_some hown6 (by omega)
              have hown6' : w6.ownsRow w2.heap.size 3 1 (.slice (some ⟨gn, 0, none⟩) m k6) m ((nextL l d 0).map (Value.int .i64)) := by rw [nextL_zero]; exact hown6
              have H6 := Lib.hid (And.intro hown6' hb6)
              clear hown6 hown6' hbl6 hb6
              go_wp2_with fail
              go_loopw [45] (fun xv wr => ∃ x : Nat, x ≤ lk ∧ xv = .int .i64 x ∧ wr.ownsRow w2.heap.size 3 1 (.slice (some ⟨gn, 0, none⟩) m k6) m ((nextL l d x).map (Value.int .i64)) ∧ Below w2.heap.size w2 wr) (fun xv _ => lk - (intOf xv).toNat)
              case atStart => exact ⟨0, Nat.zero_le _, rfl, H6.out.1, H6.out.2⟩
              case round =>
                obtain ⟨x, hx, rfl, hown, hbl⟩ := hrel
                obtain ⟨wq, rfl⟩ : ∃ wq : World, wq = wr := ⟨_, rfl⟩
                have HQ := Lib.hid (And.intro hown hbl)
                clear hown hbl
                by_cases hlx : x < lk
                · have l2 : (x : Int) < (lk : Int) := by omega
                  obtain ⟨la, hla, _, hlc⟩ := (H2.out.1.below HQ.out.2).some_ (by rw [natI_length, ← HLK.out]; omega)
                  injection hla with hla
                  subst hla
                  have hcx := hlc x _ (natI_get (l := l) (by rw [← HLK.out]; exact hlx))
                  obtain ⟨y, hy⟩ : ∃ y, y = (x + 1) % lk := ⟨_, rfl⟩
                  have hyk : y < lk := by rw [hy]; exact Nat.mod_lt _ (by omega)
                  have hmod : ((x : Int) + 1) % (lk : Int) = (y : Int) := by rw [hy]; simp
                  have HY := Lib.hid hy
                  have l3 : (y : Int) < (lk : Int) := by omega
                  have l4 : (0 : Int) ≤ (y : Int) := by omega
                  clear hlc hy
                  generalize hix : l.getD x 0 = ix at hcx
                  have HIX := Lib.hid hix
                  clear hix
                  go_wp2_with fail
                  go_loopw [52] (fun hv wr => ∃ h : Nat, h ≤ m ∧ hv = .int .i64 h ∧ wr.ownsRow w2.heap.size 3 1 (.slice (some ⟨gn, 0, none⟩) m k6) m ((mixL (nextL l d (x + 1)) (nextL l d x) h).map (Value.int .i64)) ∧ Below w2.heap.size w2 wr) (fun hv _ => m - (intOf hv).toNat)
                  case atStart => exact ⟨0, Nat.zero_le _, rfl, by rw [mixL_zero]; exact HQ.out.1, HQ.out.2⟩
                  case round =>
                    obtain ⟨h, hh, rfl, hown, hbl⟩ := hrel
                    have HH := Lib.hid (And.intro hown hbl)
                    clear hown hbl
                    have hlen := nextL_length l d
                    have hdl := HX.out.2.2.1.1
                    by_cases hlh : h < m
                    · obtain ⟨p, hp⟩ : ∃ p, d[h]? = some p := ⟨_, List.getElem?_eq_getElem (by omega)⟩
                      have hpd : d.getD h 0 = p := by rw [List.getD_eq_getElem?_getD, hp]; rfl
                      obtain ⟨da, hda, hcp⟩ := (At.below (At.of_own H2.out.2.1) HH.out.2) h (.int .i64 p) (by rw [List.getElem?_map, hp]; rfl)
                      injection hda with hda
                      subst hda
                      have hcp2 : wr.cell? ⟨gd, h, none⟩ = some (.int .i64 p) := by
                        have e : (⟨gd, 0, none⟩ : Addr).add h = ⟨gd, h, none⟩ := by cases h <;> simp [Addr.add]
                        rwa [e] at hcp
                      obtain ⟨la2, hla2, _, hlc2'⟩ := (H2.out.1.below HH.out.2).some_ (by rw [natI_length, ← HLK.out]; omega)
                      injection hla2 with hla2
                      subst hla2
                      have hcy := hlc2' y _ (natI_get (l := l) (by rw [← HLK.out]; exact hyk))
                      have ea : (nextL l d (x + 1)).getD h 0 = if p = (l.getD y 0 : Int) then (ix : Int) else nextTo l x p := by
                        rw [nextL_getD (by omega), hpd, nextTo, ← HLK.out, ← HY.out, HIX.out]
                      have eb : (nextL l d x).getD h 0 = nextTo l x p := by rw [nextL_getD (by omega), hpd]
                      have hset := mixL_set (a := nextL l d (x + 1)) (b := nextL l d x) (k := h) (by rw [hlen, hlen]) (by rw [hlen]; omega)
                      have hget := mixL_getD (a := nextL l d (x + 1)) (b := nextL l d x) (k := h) (by rw [hlen, hlen]) (by rw [hlen]; omega)
                      have hml := mixL_length (a := nextL l d (x + 1)) (b := nextL l d x) (by rw [hlen, hlen]) h
                      rw [hlen] at hml
                      have l5 : (h : Int) < (m : Int) := by omega
                      have HE := Lib.hid (And.intro ea (And.intro eb (And.intro hset (And.intro hget (And.intro hml hdl)))))
                      clear hp hpd hcp hlc2' ea eb hset hget hml hlen hdl
                      generalize l.getD y 0 = iy at HE hcy
                      by_cases he : p = (iy : Int)
                      · have hbe : (p == (iy : Int)) = true := by simp [he]
                        obtain ⟨q1, q2, q3⟩ := own_put HH.out.1 hlh (ix : Int)
                        have HN : Hid ((wr.setCell ⟨gn, h, none⟩ (.int .i64 (ix : Int))).ownsRow w2.heap.size 3 1 (.slice (some ⟨gn, 0, none⟩) m k6) m ((mixL (nextL l d (x + 1)) (nextL l d x) (h + 1)).map (Value.int .i64))) := Lib.hid (by
                          rw [← HE.out.2.2.1, HE.out.1, if_pos he]; exact q3)
                        generalize (mixL (nextL l d (x + 1)) (nextL l d x) h).getD h 0 = ov at q2
                        clear he q3
                        go_wp2_with fail
                        go_roundw
                        case rel => exact ⟨h + 1, by omega, by go_num, HN.out, HH.out.2.setCell hgn _⟩
                        case measure => simp [intOf]; omega
                      · have hbe : (p == (iy : Int)) = false := by simp [he]
                        have HN : Hid (mixL (nextL l d (x + 1)) (nextL l d x) (h + 1) = mixL (nextL l d (x + 1)) (nextL l d x) h) := Lib.hid (by
                          rw [← HE.out.2.2.1, HE.out.1, if_neg he, ← HE.out.2.1, ← HE.out.2.2.2.1]
                          have hlt2 : h < (mixL (nextL l d (x + 1)) (nextL l d x) h).length := by rw [HE.out.2.2.2.2.1]; rw [HE.out.2.2.2.2.2]; exact hlh
                          rw [List.getD_eq_getElem?_getD, List.getElem?_eq_getElem hlt2]
                          simp)
                        clear he
                        go_wp2_with fail
                        go_roundw
                        case rel => exact ⟨h + 1, by omega, by go_num, by rw [HN.out]; exact HH.out.1, HH.out.2⟩
                        case measure => simp [intOf]; omega
                    · obtain rfl : h = m := by omega
                      have HN : Hid (mixL (nextL l d (x + 1)) (nextL l d x) h = nextL l d (x + 1)) := Lib.hid (mixL_all (by rw [hlen, hdl]) (by rw [hlen, hdl]))
                      clear hlen hdl
                      go_wp2_with fail
                      go_roundw
                      case rel => exact ⟨x + 1, by omega, by go_num, by rw [← HN.out]; exact HH.out.1, HH.out.2⟩
                      case measure => simp [intOf]; omega
                · obtain rfl : x = lk := by omega
                  have hrot : nextL l d x = rotD l d := by rw [HLK.out]; exact nextL_rot HC.out.2.2.1 d
                  have hownr := HQ.out.1
                  rw [hrot] at hownr
                  have hpr := partD_rot HX.out.2.2.1 HC.out.2.2.2.1
                  have hsetr : settle V n 3000 (cycTo V n m t) = settle V n (F - 1) (rotD l d) := by
                    rw [HX.out.1]
                    obtain ⟨F', hF'⟩ : ∃ F', F = F' + 1 := ⟨F - 1, by have := HX.out.2.1; omega⟩
                    rw [hF', settle_rot HC.out.1 HC.out.2.1]; rfl
                  have HRR := Lib.hid (And.intro (own_mono hownr hsz2) (And.intro hpr (And.intro hsetr (H2.out.2.2.trans (HQ.out.2.mono hsz2)))))
                  clear hrot hownr hpr hsetr
                  go_wp2_with fail
                  refine (r1calm_any (some ad0) n cap (some ⟨gn, 0, none⟩) m k6 V (rotD l d) _ H.out.1 (by omega) HRR.out.2.1.1 (by omega) H.out.2.2.2 (H.out.2.1.below HRR.out.2.2.2) (At.of_own HRR.out.1)).mono ?_
                  rintro e w' ⟨rfl, rfl⟩
                  go_wp2_with fail
                  go_roundg (potN V (rotD l d) n)
                  case measure => exact HC.out.2.2.2.2
                  case rel => exact ⟨gn, k6, F - 1, rotD l d, rfl, rfl, rfl, HRR.out.2.2.1, by have := HC.out.2.2.2.2; have := HX.out.2.1; omega, HRR.out.2.1, HRR.out.1, HRR.out.2.2.2⟩
        · obtain rfl : t = m := by omega
          obtain ⟨A9, c9, he, h1, h2, _⟩ := own_form HR.out.1
          injection he with e1 e2 e3
          subst e3
          clear e1 e2
          go_wp2_with fail
          go_ret
          exact ⟨gd, c, rfl, h1, h2, At.of_own HR.out.1, HR.out.2.2⟩

/- Contract: Cycles of package split. -/

theorem idx_natI (l : List Nat) (p : Int) : idx (natI l) p = if 0 ≤ p ∧ p.toNat ∈ l then ((l.idxOf p.toNat : Nat) : Int) else -1 := by
  unfold idx
  have hmem : p ∈ natI l ↔ 0 ≤ p ∧ p.toNat ∈ l := by
    unfold natI
    rw [List.mem_map]
    constructor
    · rintro ⟨x, hx, rfl⟩; exact ⟨by omega, by simpa using hx⟩
    · rintro ⟨h1, h2⟩; exact ⟨p.toNat, h2, by omega⟩
  by_cases h : 0 ≤ p ∧ p.toNat ∈ l
  · rw [if_pos h, if_pos (hmem.2 h)]
    congr 1
    have key : ∀ l : List Nat, (natI l).idxOf p = l.idxOf p.toNat := by
      intro l
      induction l with
      | nil => rfl
      | cons a l ih =>
        show ((a : Int) :: natI l).idxOf p = (a :: l).idxOf p.toNat
        rw [List.idxOf_cons, List.idxOf_cons, ih]
        have e : ((a : Int) == p) = (a == p.toNat) := by rw [Bool.eq_iff_iff, beq_iff_eq, beq_iff_eq]; omega
        rw [e]
    exact key l
  · rw [if_neg h, if_neg (fun h2 => h (hmem.1 h2))]
theorem calm_at {V : List (List Int)} {d : List Int} {n j : Nat} (hj : j < n) (hno : ∀ k, k < j → ((List.range n).all fun i => !envB V d i k) = false) (h : ((List.range n).all fun i => !envB V d i j) = true) : calmO V d n = some j := by
  unfold calmO; exact range_find_some hj hno h

/-- What Cycles leaves. -/
def CyclesPost (V : List (List Int)) (w : World) (e : Ending) (w' : World) : Prop :=
  (valV V = false ∧ e = .returned (.tuple #[.slice none 0 0, .int .i64 2]) ∧ Below w.heap.size w w') ∨
  (valV V = true ∧ ∃ g, e = .returned (.tuple #[.slice (some ⟨g, 0, none⟩) (rowV V 0).length (rowV V 0).length, .int .i64 0]) ∧ Blk w' g 3 (arr (cycTo V V.length (rowV V 0).length (rowV V 0).length)) ∧ w.heap.size ≤ g ∧ Below w.heap.size w w')

set_option maxRecDepth 100000 in
set_option maxHeartbeats 6400000 in
theorem scycles_any (A : Option Addr) (n cap : Nat) (V : List (List Int)) (w : World) (hl : V.length = n) (hn : n ≤ 9223372036854775807) (hV : Mat w A V) :
    Calls Try.prog 38 #[.slice A n cap] w (CyclesPost V w) := by
  have H := Lib.hid (And.intro hl hV)
  clear hl hV
  go_enter Try.func38, Try.ntmps38
  go_wp2_with fail
  refine (svalid_any A n cap V _ H.out.1 hn H.out.2).mono ?_
  rintro e w1 ⟨rfl, hb1⟩
  have H1 := Lib.hid hb1
  clear hb1
  cases hv : valV V
  · have HV := Lib.hid hv
    clear hv
    go_wp2_with fail
    go_ret2
    exact .inl ⟨HV.out, rfl, H1.out⟩
  · have hv1 := valV_iff.1 hv
    have hn4 : 1 ≤ n ∧ n ≤ 4 := by rw [← H.out.1]; exact hv1.1
    obtain ⟨m, hm⟩ : ∃ m, m = (rowV V 0).length := ⟨_, rfl⟩
    have hm7 : 1 ≤ m ∧ m ≤ 7 := by rw [hm]; exact hv1.2.1
    have hrows : ∀ i, i < n → (rowV V i).length = m ∧ ∀ x ∈ rowV V i, 0 ≤ x ∧ x ≤ 100 := by rw [← H.out.1]; exact valV_rows hv hm
    have HV := Lib.hid (And.intro hv (And.intro hm hrows))
    clear hv hv1 hm hrows
    go_wp2_with fail
    refine (snobody_any A n cap m V w1 H.out.1 hn4.1 (by omega) HV.out.2.1 hm7 (H.out.2.below H1.out)).mono ?_
    rintro e w2 ⟨g, rfl, hB2, hg, hb2⟩
    have hw2 : Below w.heap.size w w2 := H1.out.trans (hb2.mono H1.out.size)
    have hgw : w.heap.size ≤ g := Nat.le_trans H1.out.size hg
    have H2 := Lib.hid (And.intro hB2 hw2)
    clear hB2 hg hb2 hw2
    go_wp2_with fail
    go_loopg [21] m (fun gh iv wr => ∃ t : Nat, gh = m - t ∧ t ≤ m ∧ iv = .int .i64 t ∧ Blk wr g 3 (arr (cycTo V n m t)) ∧ partD n m (cycTo V n m t) ∧ Below w.heap.size w wr)
    case atStart => exact ⟨0, rfl, Nat.zero_le _, rfl, H2.out.1, partD_zero n m, H2.out.2⟩
    case round =>
      obtain ⟨t, rfl, ht, rfl, hB, hpd, hbl⟩ := hrel
      obtain ⟨wo, rfl⟩ : ∃ wo : World, wo = wr := ⟨_, rfl⟩
      have HR := Lib.hid (And.intro hB (And.intro hpd hbl))
      clear hB hpd hbl
      by_cases hlt : t < m
      · have l1 : (t : Int) < (m : Int) := by omega
        go_wp2_with fail
        go_loopg [] (potN V (cycTo V n m t) n) (fun gh wr => ∃ (F : Nat) (d : List Int), gh = potN V d n ∧ settle V n 3000 (cycTo V n m t) = settle V n F d ∧ potN V d n < F ∧ partD n m d ∧ Blk wr g 3 (arr d) ∧ Below w.heap.size w wr)
        case atStart => exact ⟨3000, cycTo V n m t, rfl, rfl, potN_lt (fun i hi => (HV.out.2.2 i hi).2), HR.out.2.1, HR.out.1, HR.out.2.2⟩
        case round =>
          obtain ⟨F, d, rfl, hset, hF, hpd, hB, hbl⟩ := hrel
          obtain ⟨wp, rfl⟩ : ∃ wp : World, wp = wr := ⟨_, rfl⟩
          have hwsz := hbl.size
          have HX := Lib.hid (And.intro hset (And.intro hF (And.intro hpd (And.intro hB hbl))))
          clear hset hF hpd hB hbl
          go_wp2_with fail
          refine (senvy_any A n cap (some ⟨g, 0, none⟩) m m V d _ H.out.1 (by omega) HX.out.2.2.1.1 (by omega) HV.out.2.2 (H.out.2.below HX.out.2.2.2.2) (blk_ints HX.out.2.2.2.1)).mono ?_
          rintro e w3 ⟨Ap, cp, rfl, hq, hP, hb3⟩
          obtain ⟨q, hqe⟩ : ∃ q, q = (envL V d n).length := ⟨_, rfl⟩
          rw [← hqe] at hq ⊢
          have hw3 := hb3.size
          have hbl3 : ∀ o, Blk (w3.alloc (.cells #[o] 3)) w3.heap.size 3 #[o] := fun o => Blk.new _ _ _ rfl
          have hal3 : ∀ o, Below w3.heap.size w3 (w3.alloc o) := fun o => (Below.refl _ _).alloc (Nat.le_refl _) _
          have H3 := Lib.hid (And.intro hP (And.intro (HX.out.2.2.2.1.below hb3 HX.out.2.2.2.1.lt) (And.intro (HX.out.2.2.2.2.trans (hb3.mono hwsz)) (And.intro hqe (And.intro hbl3 hal3)))))
          clear hqe hP hb3 hbl3 hal3
          go_wp2_with fail
          go_loopg [] n (fun gh wr => ∃ j : Nat, gh = n - j ∧ j ≤ n ∧ Blk wr w3.heap.size 3 #[.int .i64 (j : Int)] ∧ (∀ k, k < j → ((List.range n).all fun i => !envB V d i k) = false) ∧ Below w3.heap.size w3 wr)
          case atStart => exact ⟨0, rfl, Nat.zero_le _, H3.out.2.2.2.2.1 _, fun k hk => by omega, H3.out.2.2.2.2.2 _⟩
          case round =>
            obtain ⟨j, rfl, hj, hBj, hnoj, hbl⟩ := hrel
            have HJ := Lib.hid (And.intro hBj (And.intro hnoj hbl))
            obtain ⟨c1, f1⟩ := hBj.at1
            have hwr := hbl.size
            clear hBj hnoj hbl
            have hgn : g ≠ w3.heap.size := by have := H3.out.2.1.lt; omega
            by_cases hlj : j < n
            · have l2 : (j : Int) < (n : Int) := by omega
              go_wp2_with fail
              refine (containsfP_any Ap q cp w3.heap.size j (envL V d n) _ H3.out.2.2.2.1.symm hq (H3.out.1.below HJ.out.2.2) c1).mono ?_
              rintro e w4 ⟨rfl, hb4⟩
              rw [envied_iff hlj]
              have hBj4 := HJ.out.1.below hb4 HJ.out.1.lt
              have hbl4 : Below w3.heap.size w3 w4 := HJ.out.2.2.trans (hb4.mono hwr)
              clear c1 f1
              obtain ⟨c1, f1⟩ := hBj4.at1
              have H4 := Lib.hid (And.intro hBj4 hbl4)
              clear hb4 hBj4 hbl4
              cases hca : (List.range n).all fun i => !envB V d i j
              · have HN : Hid (∀ k, k < j + 1 → ((List.range n).all fun i => !envB V d i k) = false) := Lib.hid (fun k hk => by
                  rcases Nat.lt_succ_iff_lt_or_eq.1 hk with h | h
                  · exact HJ.out.2.1 k h
                  · rw [h]; exact hca)
                have e1 : IntKind.i64.wrap ((j : Int) + 1) = (j : Int) + 1 := IntWalk.i64_in _ (by omega)
                clear hca
                go_wp2_with fail
                go_roundg (n - (j + 1))
                case measure => omega
                case rel => exact ⟨j + 1, rfl, by omega, by have h := H4.out.1.set_ 0 (.int .i64 ((j : Int) + 1)); exact h, HN.out, H4.out.2.setCell (Nat.le_refl _) _⟩
              · have hcalm := calm_at hlj HJ.out.2.1 hca
                have hset2 : settle V n 3000 (cycTo V n m t) = d := by rw [HX.out.1, settle_calm hcalm]
                have hnext := cycTo_succ V n m t hset2 hcalm
                have hB4 : Blk w4 g 3 (arr d) := H3.out.2.1.below H4.out.2 H3.out.2.1.lt
                have c2 : w4.cell? ⟨g, t, none⟩ = some (.int .i64 (d.getD t 0)) := by
                  rw [hB4.cell, arr_get, List.getD_eq_getElem?_getD, List.getElem?_eq_getElem (by rw [HX.out.2.2.1.1]; exact hlt)]; rfl
                have f2 := hB4.frozen t
                have hB5 := hB4.set_ t (.int .i64 (j : Int))
                rw [arr_set, ← hnext] at hB5
                have hpd5 : partD n m (cycTo V n m (t + 1)) := by rw [hnext]; exact partD_set HX.out.2.2.1 hlj
                have HN := Lib.hid (And.intro hB5 (And.intro hpd5 ((H3.out.2.2.1.trans (H4.out.2.mono (by omega))).setCell (p := ⟨g, t, none⟩) hgw (.int .i64 (j : Int)))))
                generalize d.getD t 0 = od at c2
                clear hca hcalm hset2 hnext hB4 hB5 hpd5
                go_wp2_with fail
                go_roundg (m - (t + 1))
                case measure => omega
                case rel => exact ⟨t + 1, rfl, by omega, by go_num, HN.out.1, HN.out.2.1, HN.out.2.2⟩
            · obtain rfl : j = n := by omega
              have hcn : calmO V d j = none := by unfold calmO; exact range_find_none HJ.out.2.1
              obtain ⟨l, hcyc, hl2, hln, hnd, hlb, hic⟩ := cyc_facts hn4 hcn
              have hpot := potN_rot hn4.2 hm7.2 HX.out.2.2.1.1 (fun i hi => (HV.out.2.2 i hi).2) hnd hlb (by rintro rfl; simp at hl2) hic
              obtain ⟨lk, hlk⟩ : ∃ lk, lk = l.length := ⟨_, rfl⟩
              rw [← hlk] at hl2 hln
              have hwrB : Blk wr g 3 (arr d) := H3.out.2.1.below HJ.out.2.2 H3.out.2.1.lt
              have hwrW : Below w.heap.size w wr := H3.out.2.2.1.trans (HJ.out.2.2.mono (by omega))
              have HC := Lib.hid (And.intro hcn (And.intro hcyc (And.intro hnd (And.intro hlb (And.intro hpot (And.intro hlk (And.intro hwrB hwrW)))))))
              clear hcn hcyc hnd hlb hic hpot hlk hwrB hwrW
              go_wp2_with fail
              refine (circle_any A j cap (some ⟨g, 0, none⟩) m m V d l _ H.out.1 hn4 HX.out.2.2.1.1 (by omega) HV.out.2.2 (H.out.2.below HC.out.2.2.2.2.2.2.2) (blk_ints HC.out.2.2.2.2.2.2.1) HC.out.2.1).mono ?_
              rintro e w5 ⟨lA, lc, rfl, hlc1, hlc2, hIl, hb5, hlAB⟩
              rw [← HC.out.2.2.2.2.2.1] at hlc1 ⊢
              have hwr5 := HC.out.2.2.2.2.2.2.2.size
              have H5 := Lib.hid (And.intro hIl (And.intro (HC.out.2.2.2.2.2.2.1.below hb5 HC.out.2.2.2.2.2.2.1.lt) (HC.out.2.2.2.2.2.2.2.trans (hb5.mono hwr5))))
              have hg5 : lA.block ≠ g := by have := HC.out.2.2.2.2.2.2.1.lt; omega
              clear hIl hb5 c1 f1
              go_wp2_with fail
              go_loopw [50] (fun kv wr => ∃ k : Nat, k ≤ m ∧ kv = .int .i64 k ∧ Blk wr g 3 (arr (mixL (rotD l d) d k)) ∧ Ints wr (some lA) (natI l) ∧ Below w.heap.size w wr) (fun kv _ => m - (intOf kv).toNat)
              case atStart => exact ⟨0, Nat.zero_le _, rfl, by rw [mixL_zero]; exact H5.out.2.1, H5.out.1, H5.out.2.2⟩
              case round =>
                obtain ⟨k, hk, rfl, hBk, hIk, hblk⟩ := hrel
                have HK := Lib.hid (And.intro hBk (And.intro hIk hblk))
                clear hBk hIk hblk
                have hdl := HX.out.2.2.1.1
                have hrl := rotD_length l d
                by_cases hltk : k < m
                · have l3 : (k : Int) < (m : Int) := by omega
                  obtain ⟨p, hp⟩ : ∃ p, p = d.getD k 0 := ⟨_, rfl⟩
                  have hget := mixL_getD (a := rotD l d) (b := d) (k := k) (by rw [hrl]) (by omega)
                  have hset := mixL_set (a := rotD l d) (b := d) (k := k) (by rw [hrl]) (by omega)
                  have hmlen := mixL_length (a := rotD l d) (b := d) (by rw [hrl]) k
                  rw [rotD_getD (by omega), ← hp] at hset
                  rw [← hp] at hget
                  have hg2 : (mixL (rotD l d) d k)[k]? = some p := by rw [← hget, List.getD_eq_getElem?_getD, List.getElem?_eq_getElem (by omega)]; rfl
                  have c3 : wr.cell? ⟨g, k, none⟩ = some (.int .i64 p) := by rw [HK.out.1.cell, arr_get, hg2]; rfl
                  have f3 := HK.out.1.frozen k
                  have hidx := idx_natI l p
                  have HS := Lib.hid (And.intro hset (And.intro hget hmlen))
                  have HP := Lib.hid hp
                  clear hp hget hset hmlen hg2 hdl hrl
                  by_cases hin : 0 ≤ p ∧ p.toNat ∈ l
                  · obtain ⟨a, ha⟩ : ∃ a, a = l.idxOf p.toNat := ⟨_, rfl⟩
                    have hal : a < lk := by rw [ha, HC.out.2.2.2.2.2.1]; exact List.idxOf_lt_length_of_mem hin.2
                    rw [if_pos hin, ← ha] at hidx
                    obtain ⟨y, hy⟩ : ∃ y, y = (a + lk - 1) % lk := ⟨_, rfl⟩
                    have hyk : y < lk := by rw [hy]; exact Nat.mod_lt _ (by omega)
                    have hmod : ((a : Int) + (lk : Int) - 1) % (lk : Int) = (y : Int) := by
                      rw [hy, Int.natCast_emod]
                      congr 1
                      omega
                    have hrp : rotP l p = ((l.getD y 0 : Nat) : Int) := by unfold rotP; rw [if_pos hin, ← ha, ← HC.out.2.2.2.2.2.1, ← hy]
                    obtain ⟨la, hla, _, hlcc⟩ := HK.out.2.1.some_ (by rw [natI_length, ← HC.out.2.2.2.2.2.1]; omega)
                    injection hla with hla
                    subst hla
                    have c4 := hlcc y _ (natI_get (l := l) (by rw [← HC.out.2.2.2.2.2.1]; exact hyk))
                    have hB6 := HK.out.1.set_ k (.int .i64 ((l.getD y 0 : Nat) : Int))
                    rw [arr_set, ← hrp, HS.out.1, hrp] at hB6
                    have l4 : (y : Int) < (lk : Int) := by omega
                    have l5 : (0 : Int) ≤ (y : Int) := by omega
                    have HN := Lib.hid (And.intro hB6 (And.intro (ints_far HK.out.2.1 (p := ⟨g, k, none⟩) (fun ad ha => by injection ha with ha; subst ha; exact hg5) (.int .i64 ((l.getD y 0 : Nat) : Int))) (HK.out.2.2.setCell (p := ⟨g, k, none⟩) hgw (.int .i64 ((l.getD y 0 : Nat) : Int)))))
                    generalize l.getD y 0 = ly at HN c4
                    clear hin ha hy hrp hlcc hB6
                    go_wp2_with fail
                    refine (index_any (some lA) lk lc (natI l) p _ (by rw [natI_length]; exact HC.out.2.2.2.2.2.1.symm) (by omega) HK.out.2.1).mono ?_
                    rintro e w' ⟨rfl, rfl⟩
                    rw [hidx]
                    clear hidx
                    go_wp2_with fail
                    go_roundw
                    case rel => exact ⟨k + 1, by omega, by go_num, HN.out.1, HN.out.2.1, HN.out.2.2⟩
                    case measure => simp [intOf]; omega
                  · rw [if_neg hin] at hidx
                    have hrp : rotP l p = p := by unfold rotP; rw [if_neg hin]
                    have HN : Hid (mixL (rotD l d) d (k + 1) = mixL (rotD l d) d k) := Lib.hid (by
                      rw [← HS.out.1, hrp, ← HS.out.2.1]
                      have hlt2 : k < (mixL (rotD l d) d k).length := by rw [HS.out.2.2, HX.out.2.2.1.1]; exact hltk
                      rw [List.getD_eq_getElem?_getD, List.getElem?_eq_getElem hlt2]
                      simp)
                    clear hin hrp
                    go_wp2_with fail
                    refine (index_any (some lA) lk lc (natI l) p _ (by rw [natI_length]; exact HC.out.2.2.2.2.2.1.symm) (by omega) HK.out.2.1).mono ?_
                    rintro e w' ⟨rfl, rfl⟩
                    rw [hidx]
                    clear hidx
                    go_wp2_with fail
                    go_roundw
                    case rel => exact ⟨k + 1, by omega, by go_num, by rw [HN.out]; exact HK.out.1, HK.out.2.1, HK.out.2.2⟩
                    case measure => simp [intOf]; omega
                · obtain rfl : k = m := by omega
                  have hall : mixL (rotD l d) d k = rotD l d := mixL_all (by rw [hrl, hdl]) hdl
                  have hBf := HK.out.1
                  rw [hall] at hBf
                  have hsetr : settle V j 3000 (cycTo V j k t) = settle V j (F - 1) (rotD l d) := by
                    rw [HX.out.1]
                    obtain ⟨F', hF'⟩ : ∃ F', F = F' + 1 := ⟨F - 1, by have := HX.out.2.1; omega⟩
                    rw [hF', settle_rot HC.out.1 HC.out.2.1]; rfl
                  have HN := Lib.hid (And.intro hBf (And.intro hsetr (partD_rot HX.out.2.2.1 HC.out.2.2.2.1)))
                  clear hall hBf hsetr hdl hrl
                  go_wp2_with fail
                  go_roundg (potN V (rotD l d) j)
                  case measure => exact HC.out.2.2.2.2.1
                  case rel => exact ⟨F - 1, rotD l d, rfl, HN.out.2.1, by have := HC.out.2.2.2.2.1; have := HX.out.2.1; omega, HN.out.2.2, HN.out.1, HK.out.2.2⟩
      · obtain rfl : t = m := by omega
        go_wp2_with fail
        go_ret2
        refine .inr ⟨HV.out.1, g, ?_, ?_, hgw, HR.out.2.2⟩
        · rw [← HV.out.2.1]; rfl
        · rw [H.out.1, ← HV.out.2.1]; exact HR.out.1

/- For two people some division is fair up to any: plain Lean. -/

/-- What a set says: the goods of person 1. -/
def bitL (set m : Nat) : List Int := (List.range m).map fun g => if set.testBit g then 1 else 0
theorem bitL_get {set m g : Nat} (h : g < m) : (bitL set m).getD g 0 = if set.testBit g then 1 else 0 := by
  simp [bitL, List.getD_eq_getElem?_getD, h]
theorem bitL_length (set m : Nat) : (bitL set m).length = m := by simp [bitL]
theorem bitL_all (d : List Int) (h : ∀ x ∈ d, x = 0 ∨ x = 1) : ∃ set, set < 2 ^ d.length ∧ bitL set d.length = d := by
  induction d with
  | nil => exact ⟨0, by simp, rfl⟩
  | cons x d ih =>
    obtain ⟨s, hs, e⟩ := ih fun y hy => h y (List.mem_cons_of_mem _ hy)
    have key : ∀ b : Bool, (if b then (1 : Int) else 0) = x → ∃ set, set < 2 ^ (x :: d).length ∧ bitL set (x :: d).length = x :: d := by
      intro b hb
      refine ⟨2 * s + b.toNat, ?_, ?_⟩
      · rw [List.length_cons, Nat.pow_succ]
        have : b.toNat ≤ 1 := by cases b <;> simp
        omega
      · unfold bitL
        rw [List.length_cons, List.range_succ_eq_map, List.map_cons, List.map_map]
        have h0 : (2 * s + b.toNat).testBit 0 = b := by
          rw [Nat.testBit_zero]
          cases b <;> simp <;> omega
        have h1 : ∀ g, (2 * s + b.toNat).testBit (g + 1) = s.testBit g := by
          intro g
          rw [Nat.testBit_succ]
          congr 1
          cases b <;> simp <;> omega
        rw [h0, hb]
        congr 1
        refine Eq.trans (List.map_congr_left fun g _ => ?_) e
        show (if (2 * s + b.toNat).testBit (g + 1) then (1 : Int) else 0) = _
        rw [h1 g]
    rcases h x (List.mem_cons_self ..) with hx | hx
    · exact key false (by rw [hx]; rfl)
    · exact key true (by rw [hx]; rfl)

/-- Everything is changed over. -/
def flipL (d : List Int) : List Int := d.map fun x => 1 - x
theorem flipL_getD {d : List Int} {g : Nat} (h : g < d.length) : (flipL d).getD g 0 = 1 - d.getD g 0 := by
  simp [flipL, List.getD_eq_getElem?_getD, h]
def twoL (d : List Int) : Prop := ∀ x ∈ d, x = 0 ∨ x = 1
theorem twoL_at {d : List Int} (h : twoL d) {g : Nat} (hg : g < d.length) : d.getD g 0 = 0 ∨ d.getD g 0 = 1 :=
  h _ (by rw [List.getD_eq_getElem?_getD, List.getElem?_eq_getElem hg]; exact List.getElem_mem hg)
theorem twoL_flip {d : List Int} (h : twoL d) : twoL (flipL d) := by
  intro x hx
  obtain ⟨y, hy, rfl⟩ := List.mem_map.1 hx
  rcases h y hy with e | e <;> rw [e] <;> simp
theorem worTo_flip {row d : List Int} (h : twoL d) (j : Int) (_hj : j = 0 ∨ j = 1) (g : Nat) (hg : g ≤ d.length) : worTo row (flipL d) j g = worTo row d (1 - j) g := by
  induction g with
  | zero => rfl
  | succ g ih =>
    simp only [worTo]
    rw [ih (by omega), flipL_getD (by omega)]
    have := twoL_at h (show g < d.length by omega)
    congr 1
    by_cases e : d.getD g 0 = 1 - j
    · rw [if_pos e, if_pos (by omega)]
    · rw [if_neg e, if_neg (by omega)]
theorem worTo_set {row d : List Int} (j y : Int) (i : Nat) (hi : i < d.length) (g : Nat) (hg : i < g) : worTo row (d.set i y) j g = worTo row d j g - (if d.getD i 0 = j then row.getD i 0 else 0) + (if y = j then row.getD i 0 else 0) := by
  have low : ∀ k, k ≤ i → worTo row (d.set i y) j k = worTo row d j k := by
    intro k
    induction k with
    | zero => intro _; rfl
    | succ k ih =>
      intro hk
      simp only [worTo]
      rw [ih (by omega), List.getD_eq_getElem?_getD, List.getElem?_set_ne (by omega), ← List.getD_eq_getElem?_getD]
  induction g with
  | zero => omega
  | succ g ih =>
    simp only [worTo]
    by_cases e : i = g
    · subst e
      rw [low i (Nat.le_refl _), List.getD_eq_getElem?_getD (l := d.set i y), List.getElem?_set_self hi]
      simp only [Option.getD_some]
      omega
    · rw [ih (by omega), List.getD_eq_getElem?_getD (l := d.set i y), List.getElem?_set_ne (by omega), ← List.getD_eq_getElem?_getD]
      omega
/-- How many goods the first person has. -/
def cnt0 (d : List Int) : Nat → Nat
  | 0 => 0
  | g + 1 => cnt0 d g + if d.getD g 0 = 0 then 1 else 0
theorem cnt0_le (d : List Int) (g : Nat) : cnt0 d g ≤ g := by
  induction g with
  | zero => exact Nat.le_refl _
  | succ g ih => simp only [cnt0]; split <;> omega
theorem cnt0_set {d : List Int} {i : Nat} (hi : i < d.length) (h1 : d.getD i 0 = 1) (g : Nat) (hg : i < g) : cnt0 (d.set i 0) g = cnt0 d g + 1 := by
  have low : ∀ k, k ≤ i → cnt0 (d.set i 0) k = cnt0 d k := by
    intro k
    induction k with
    | zero => intro _; rfl
    | succ k ih =>
      intro hk
      simp only [cnt0]
      rw [ih (by omega), List.getD_eq_getElem?_getD, List.getElem?_set_ne (by omega), ← List.getD_eq_getElem?_getD]
  induction g with
  | zero => omega
  | succ g ih =>
    simp only [cnt0]
    by_cases e : i = g
    · subst e
      rw [low i (Nat.le_refl _), List.getD_eq_getElem?_getD (l := d.set i 0), List.getElem?_set_self hi, h1]
      simp
    · rw [ih (by omega), List.getD_eq_getElem?_getD (l := d.set i 0), List.getElem?_set_ne (by omega), ← List.getD_eq_getElem?_getD]
      omega

/-- The first person's division: nothing that the second part could lose would leave it above the first. -/
theorem cut_exists {row : List Int} (hrow : ∀ x ∈ row, 0 ≤ x ∧ x ≤ 100) (m : Nat) (hm : m ≤ 7) (k : Nat) : ∀ (d : List Int), d.length = m → twoL d → worTo row d 0 m ≤ worTo row d 1 m → 6000 ≤ k + (worTo row d 0 m).toNat * 8 + cnt0 d m →
    ∃ d' : List Int, d'.length = m ∧ twoL d' ∧ worTo row d' 0 m ≤ worTo row d' 1 m ∧ ∀ g, g < m → d'.getD g 0 = 1 → worTo row d' 1 m - row.getD g 0 ≤ worTo row d' 0 m := by
  induction k with
  | zero =>
    intro d hd h2 _ hk
    have h1 := worTo_bd hrow d 0 m
    have h3 := cnt0_le d m
    omega
  | succ k ih =>
    intro d hd h2 hle hk
    by_cases hall : ∀ g, g < m → d.getD g 0 = 1 → worTo row d 1 m - row.getD g 0 ≤ worTo row d 0 m
    · exact ⟨d, hd, h2, hle, hall⟩
    · obtain ⟨g, hg, h1, hlt⟩ : ∃ g, g < m ∧ d.getD g 0 = 1 ∧ worTo row d 0 m < worTo row d 1 m - row.getD g 0 := by
        apply Classical.byContradiction
        intro hn
        apply hall
        intro g hg h1
        apply Classical.byContradiction
        intro h3
        exact hn ⟨g, hg, h1, by omega⟩
      have hb : 0 ≤ row.getD g 0 := by
        rw [List.getD_eq_getElem?_getD]
        cases hx : row[g]? with
        | none => simp
        | some x => exact (hrow x (List.mem_of_getElem? hx)).1
      have e0 := worTo_set (row := row) 0 0 g (show g < d.length by omega) m hg
      have e1 := worTo_set (row := row) 1 0 g (show g < d.length by omega) m hg
      rw [h1, if_neg (by omega), if_pos rfl] at e0
      rw [h1, if_pos rfl, if_neg (by omega)] at e1
      have hc := cnt0_set (show g < d.length by omega) h1 m hg
      have hw0 := (worTo_bd hrow d 0 m).1
      have h2' : twoL (d.set g 0) := by
        intro x hx
        rcases List.mem_or_eq_of_mem_set hx with h | h
        · exact h2 x h
        · exact .inl h
      have hl' : (d.set g 0).length = m := by rw [List.length_set]; exact hd
      by_cases hle' : worTo row (d.set g 0) 0 m ≤ worTo row (d.set g 0) 1 m
      · refine ih (d.set g 0) hl' h2' hle' ?_
        have : (worTo row d 0 m).toNat ≤ (worTo row (d.set g 0) 0 m).toNat := by omega
        omega
      · have f0 := worTo_flip (row := row) h2' 0 (.inl rfl) m (by omega)
        have f1 := worTo_flip (row := row) h2' 1 (.inr rfl) m (by omega)
        rw [show (1 : Int) - 0 = 1 by rfl] at f0
        rw [show (1 : Int) - 1 = 0 by rfl] at f1
        refine ih (flipL (d.set g 0)) (by unfold flipL; rw [List.length_map]; exact hl') (twoL_flip h2') (by omega) ?_
        have h3 := cnt0_le d m
        have : (worTo row d 0 m).toNat + 1 ≤ (worTo row (flipL (d.set g 0)) 0 m).toNat := by omega
        omega

theorem two_exists {V : List (List Int)} {m : Nat} (hm : m ≤ 7) (hr : ∀ i, i < 2 → (rowV V i).length = m ∧ ∀ x ∈ rowV V i, 0 ≤ x ∧ x ≤ 100) : ∃ set, set < 2 ^ m ∧ fairB V (bitL set m) 2 2 = true := by
  have hone : (List.replicate m (1 : Int)).length = m := by simp
  have hw : ∀ (row : List Int) g, g ≤ m → worTo row (List.replicate m (1 : Int)) 0 g = 0 := by
    intro row g
    induction g with
    | zero => intro _; rfl
    | succ g ih =>
      intro hg
      simp only [worTo]
      rw [ih (by omega), List.getD_eq_getElem?_getD, List.getElem?_replicate_of_lt (by omega)]
      simp
  obtain ⟨d, hd, h2, hle, hall⟩ := cut_exists (hr 0 (by omega)).2 m hm 6000 (List.replicate m 1) hone (fun x hx => .inr (List.eq_of_mem_replicate hx)) (by rw [hw _ m (Nat.le_refl _)]; exact (worTo_bd (hr 0 (by omega)).2 _ _ _).1) (by omega)
  have fin : ∀ d' : List Int, d'.length = m → twoL d' → fairB V d' 2 2 = true → ∃ set, set < 2 ^ m ∧ fairB V (bitL set m) 2 2 = true := by
    intro d' hd' h2' hf
    obtain ⟨s, hs, e⟩ := bitL_all d' h2'
    rw [hd'] at hs e
    exact ⟨s, hs, by rw [e]; exact hf⟩
  have fair : ∀ d' : List Int, d'.length = m → (envB V d' 0 1 = true → okE V d' 2 0 1 = true) → (envB V d' 1 0 = true → okE V d' 2 1 0 = true) → fairB V d' 2 2 = true := by
    intro d' hd' h1 h2
    rw [fairB_low (by omega), List.all_eq_true]
    intro p hp
    obtain ⟨ha, hb, hc⟩ := mem_envL.1 hp
    obtain ⟨i, j⟩ := p
    simp only at ha hb hc ⊢
    have hi : i = 0 ∨ i = 1 := by omega
    have hj : j = 0 ∨ j = 1 := by omega
    rcases hi with rfl | rfl <;> rcases hj with rfl | rfl
    · simp [envB] at hc
    · exact h1 hc
    · exact h2 hc
    · simp [envB] at hc
  by_cases hq : worTo (rowV V 1) d 0 m ≤ worTo (rowV V 1) d 1 m
  · refine fin d hd h2 (fair d hd ?_ ?_)
    · intro _
      unfold okE
      simp only [decide_true, Bool.true_and, Bool.or_eq_true]
      right
      rw [upB_each, hd]
      unfold wor
      rw [hd]
      exact hall
    · intro he
      unfold envB wor at he
      rw [hd] at he
      have := of_decide_eq_true he
      simp at this
      omega
  · have f0 := worTo_flip (row := rowV V 0) h2 0 (.inl rfl) m (by omega)
    have f1 := worTo_flip (row := rowV V 0) h2 1 (.inr rfl) m (by omega)
    have g0 := worTo_flip (row := rowV V 1) h2 0 (.inl rfl) m (by omega)
    have g1 := worTo_flip (row := rowV V 1) h2 1 (.inr rfl) m (by omega)
    rw [show (1 : Int) - 0 = 1 by rfl] at f0 g0
    rw [show (1 : Int) - 1 = 0 by rfl] at f1 g1
    have hl' : (flipL d).length = m := by simp [flipL, hd]
    refine fin (flipL d) hl' (twoL_flip h2) (fair _ hl' ?_ ?_)
    · intro he
      unfold envB wor at he
      rw [hl'] at he
      have := of_decide_eq_true he
      simp at this
      omega
    · intro he
      unfold envB wor at he
      rw [hl'] at he
      have := of_decide_eq_true he
      simp at this
      omega

/- The division by cycles is fair up to one, and so is that by turns: plain Lean. -/

/-- Whoever envies somebody would not without some good of theirs. -/
def ef1 (V : List (List Int)) (d : List Int) (n : Nat) : Prop := ∀ i j, i < n → j < n → envB V d i j = true → ∃ g, g < d.length ∧ d.getD g 0 = (j : Int) ∧ wor V d i (j : Int) - (rowV V i).getD g 0 ≤ wor V d i (i : Int)
theorem ef1_fair {V : List (List Int)} {d : List Int} {n : Nat} (h : ef1 V d n) : fairB V d n 1 = true := by
  rw [fairB_low (by omega), List.all_eq_true]
  intro p hp
  obtain ⟨h1, h2, h3⟩ := mem_envL.1 hp
  unfold okE
  simp only [show ((1 : Int) = 2) = False by simp, decide_false, decide_true, Bool.false_and, Bool.true_and, Bool.or_false]
  exact upB_some.2 (h p.1 p.2 h1 h2 h3)

section
variable {V : List (List Int)} {n m : Nat}
theorem row_nonneg (hr : ∀ i, i < n → (rowV V i).length = m ∧ ∀ x ∈ rowV V i, 0 ≤ x ∧ x ≤ 100) {i : Nat} (hi : i < n) (g : Nat) : 0 ≤ (rowV V i).getD g 0 := by
  rw [List.getD_eq_getElem?_getD]
  cases hx : (rowV V i)[g]? with
  | none => simp
  | some x => exact ((hr i hi).2 x (List.mem_of_getElem? hx)).1
theorem ef1_rot {d : List Int} {l : List Nat} (hnd : l.Nodup) (hlb : ∀ x ∈ l, x < n) (hic : isC V d l = true) (h : ef1 V d n) : ef1 V (rotD l d) n := by
  intro i j hi hj he
  unfold envB at he
  have he := of_decide_eq_true he
  rw [wor_rot hnd, wor_rot hnd] at he
  have h1 := (sucL_more hnd hic i).1
  have hsj : sucL l j < n := by
    unfold sucL
    split
    · rename_i hm
      exact hlb _ (getD_memN (Nat.mod_lt _ (List.length_pos_of_mem hm)))
    · exact hj
  obtain ⟨g, hg, e, h2⟩ := h i (sucL l j) hi hsj (by unfold envB; exact decide_eq_true (by omega))
  refine ⟨g, by rw [rotD_length]; exact hg, ?_, ?_⟩
  · rw [rotD_getD hg]; exact (rotP_iff hnd _ _).2 e
  · rw [wor_rot hnd, wor_rot hnd]; omega
/-- What holds while goods are given. -/
def cycI (V : List (List Int)) (n m g : Nat) (d : List Int) : Prop := partD n m d ∧ (∀ k, g ≤ k → k < m → d.getD k 0 = -1) ∧ ef1 V d n
theorem cycI_settle (hn : 1 ≤ n ∧ n ≤ 4) (g : Nat) (f : Nat) : ∀ d, cycI V n m g d → cycI V n m g (settle V n f d) := by
  induction f with
  | zero => intro d h; exact h
  | succ f ih =>
    intro d h
    simp only [settle]
    split
    · exact h
    · rename_i hc
      have hc' : calmO V d n = none := by cases hx : calmO V d n <;> simp_all
      obtain ⟨k, l, h2, hk, hcy, hl, hic⟩ := cyc_exists hn hc'
      obtain ⟨_, hnd, hlb⟩ := mem_perms hl
      rw [hcy]
      refine ih _ ⟨partD_rot h.1 hlb, fun k hk hkm => ?_, ef1_rot hnd hlb hic h.2.2⟩
      show (rotD l d).getD k 0 = -1
      rw [rotD_getD (by rw [h.1.1]; exact hkm), h.2.1 k hk hkm]
      unfold rotP
      rw [if_neg (by omega)]
theorem settle_some (hn : 1 ≤ n ∧ n ≤ 4) (hm : m ≤ 7) (hr : ∀ i, i < n → (rowV V i).length = m ∧ ∀ x ∈ rowV V i, 0 ≤ x ∧ x ≤ 100) (f : Nat) : ∀ d, partD n m d → potN V d n < f → ∃ j, calmO V (settle V n f d) n = some j := by
  induction f with
  | zero => intro d _ h; omega
  | succ f ih =>
    intro d hpd h
    simp only [settle]
    split
    · rename_i hc; exact Option.isSome_iff_exists.1 hc
    · rename_i hc
      have hc' : calmO V d n = none := by cases hx : calmO V d n <;> simp_all
      obtain ⟨k, l, h2, hk, hcy, hl, hic⟩ := cyc_exists hn hc'
      obtain ⟨hll, hnd, hlb⟩ := mem_perms hl
      rw [hcy]
      have hp := potN_rot hn.2 hm hpd.1 (fun i hi => (hr i hi).2) hnd hlb (by rintro rfl; simp at hll; omega) hic
      exact ih _ (partD_rot hpd hlb) (by show potN V (rotD l d) n < f; omega)
theorem wor_set {d : List Int} {g i : Nat} {y j : Int} (hg : g < d.length) : wor V (d.set g y) i j = wor V d i j - (if d.getD g 0 = j then (rowV V i).getD g 0 else 0) + (if y = j then (rowV V i).getD g 0 else 0) := by
  unfold wor
  rw [List.length_set]
  exact worTo_set j y g hg d.length hg
theorem potN_lt3 {d : List Int} (hr : ∀ i, i < n → (rowV V i).length = m ∧ ∀ x ∈ rowV V i, 0 ≤ x ∧ x ≤ 100) : potN V d n < 3000 := by
  have : 0 ≤ ownSum V d n := by
    unfold ownSum
    have := sumN_mono (f := fun _ => 0) (g := fun i => wor V d i (i : Int)) n (fun i hi => (worTo_bd (hr i hi).2 _ _ _).1)
    rwa [sumN_zero] at this
  unfold potN; omega
theorem cyc_ef1 (hn : 1 ≤ n ∧ n ≤ 4) (hm : m ≤ 7) (hr : ∀ i, i < n → (rowV V i).length = m ∧ ∀ x ∈ rowV V i, 0 ≤ x ∧ x ≤ 100) (g : Nat) (hg : g ≤ m) : cycI V n m g (cycTo V n m g) := by
  induction g with
  | zero =>
    refine ⟨partD_zero n m, fun k _ hk => ?_, fun i j hi hj he => ?_⟩
    · simp only [cycTo]
      rw [List.getD_eq_getElem?_getD, List.getElem?_replicate_of_lt hk]; rfl
    · exfalso
      have hz : ∀ (row : List Int) (j : Nat) (k : Nat), k ≤ m → worTo row (List.replicate m (-1)) (j : Int) k = 0 := by
        intro row j k
        induction k with
        | zero => intro _; rfl
        | succ k ih =>
          intro hk
          simp only [worTo]
          rw [ih (by omega), List.getD_eq_getElem?_getD, List.getElem?_replicate_of_lt (by omega)]
          simp only [Option.getD_some]
          rw [if_neg (by omega)]; rfl
      have := of_decide_eq_true he
      simp only [cycTo] at this
      unfold wor at this
      rw [List.length_replicate, hz _ _ m (Nat.le_refl _), hz _ _ m (Nat.le_refl _)] at this
      omega
  | succ g ih =>
    have h0 := ih (by omega)
    have h1 := cycI_settle hn g 3000 _ h0
    obtain ⟨j, hj⟩ := settle_some hn hm hr 3000 (cycTo V n m g) h0.1 (potN_lt3 hr)
    rw [cycTo, hj, Option.getD_some]
    generalize settle V n 3000 (cycTo V n m g) = d at h1 hj
    obtain ⟨hjn, hcalm⟩ := calm_lt hj
    have hgd : g < d.length := by rw [h1.1.1]; omega
    have hfree := h1.2.1 g (Nat.le_refl _) (by omega)
    have hw : ∀ i j' : Nat, wor V (d.set g (j : Int)) i (j' : Int) = wor V d i (j' : Int) + (if (j : Int) = (j' : Int) then (rowV V i).getD g 0 else 0) := by
      intro i j'
      rw [wor_set hgd, hfree, if_neg (by omega), Int.sub_zero]
    refine ⟨partD_set h1.1 hjn, fun k hk hkm => ?_, fun i j' hi hj' he => ?_⟩
    · rw [List.getD_eq_getElem?_getD, List.getElem?_set_ne (by omega), ← List.getD_eq_getElem?_getD]
      exact h1.2.1 k (by omega) hkm
    · have he := of_decide_eq_true he
      rw [hw, hw] at he
      have hv := row_nonneg hr hi g
      by_cases e : j = j'
      · subst e
        refine ⟨g, by rw [List.length_set]; exact hgd, ?_, ?_⟩
        · rw [List.getD_eq_getElem?_getD, List.getElem?_set_self hgd]; rfl
        · rw [hw, hw, if_pos rfl]
          have hcf := hcalm i hi
          unfold envB at hcf
          have := of_decide_eq_false hcf
          split <;> omega
      · rw [if_neg (show ¬ (j : Int) = (j' : Int) by omega)] at he
        obtain ⟨g0, hg0, e0, h2⟩ := h1.2.2 i j' hi hj' (by unfold envB; rw [decide_eq_true_eq]; split at he <;> omega)
        have hne : g ≠ g0 := by rintro rfl; omega
        refine ⟨g0, by rw [List.length_set]; exact hg0, ?_, ?_⟩
        · rw [List.getD_eq_getElem?_getD, List.getElem?_set_ne hne, ← List.getD_eq_getElem?_getD]; exact e0
        · rw [hw, hw, if_neg (show ¬ (j : Int) = (j' : Int) by omega)]
          split <;> omega

/-- By turns: who chooses first does not envy, and who chooses later does not without the first good. -/
def rndI (V : List (List Int)) (n m : Nat) (i j : Nat) (t : Nat) (d : List Int) : Prop :=
  (i < j → wor V d i (j : Int) ≤ wor V d i (i : Int) ∧ (i < t % n → t % n ≤ j → ∀ g, g < m → d.getD g 0 < 0 → wor V d i (j : Int) + (rowV V i).getD g 0 ≤ wor V d i (i : Int))) ∧
  (j < i → (t ≤ j ∧ wor V d i (j : Int) = 0) ∨ (j < t ∧ ∃ f, f < m ∧ d.getD f 0 = (j : Int) ∧ wor V d i (j : Int) - (rowV V i).getD f 0 ≤ wor V d i (i : Int) ∧
    ((t % n ≤ j ∨ i < t % n) → ∀ g, g < m → d.getD g 0 < 0 → wor V d i (j : Int) - (rowV V i).getD f 0 + (rowV V i).getD g 0 ≤ wor V d i (i : Int))))
theorem rnd_inv (hn : 1 ≤ n) (hr : ∀ i, i < n → (rowV V i).length = m ∧ ∀ x ∈ rowV V i, 0 ≤ x ∧ x ≤ 100) {i j : Nat} (hi : i < n) (hj : j < n) (t : Nat) (ht : t ≤ m) : rndI V n m i j t (rndTo V n m t) := by
  have hz : ∀ (row : List Int) (j : Nat) (k : Nat), k ≤ m → worTo row (List.replicate m (-1)) (j : Int) k = 0 := by
    intro row j k
    induction k with
    | zero => intro _; rfl
    | succ k ih =>
      intro hk
      simp only [worTo]
      rw [ih (by omega), List.getD_eq_getElem?_getD, List.getElem?_replicate_of_lt (by omega)]
      simp only [Option.getD_some]
      rw [if_neg (by omega)]; rfl
  induction t with
  | zero =>
    have e : ∀ j : Nat, wor V (rndTo V n m 0) i (j : Int) = 0 := by
      intro j; unfold wor rndTo; rw [List.length_replicate]; exact hz _ _ m (Nat.le_refl _)
    refine ⟨fun _ => ⟨by rw [e, e]; exact Int.le_refl _, fun h => by simp at h⟩, fun _ => .inl ⟨Nat.zero_le _, e j⟩⟩
  | succ t ih =>
    have h := ih (by omega)
    have hbest := rnd_best V (n := n) (m := m) (t := t) (by omega)
    obtain ⟨hfree, hmax⟩ := bestTo_some hbest
    have hbm0 := (bestTo_bd (rowV V (t % n)) (rndTo V n m t) m).2
    rw [rndTo]
    obtain ⟨b, hb⟩ : ∃ b, b = (bestTo (rowV V (t % n)) (rndTo V n m t) m).toNat := ⟨_, rfl⟩
    rw [← hb] at hfree hmax ⊢
    have hbm : b < m := by omega
    have hlen := rndTo_length V n m t
    generalize rndTo V n m t = d at h hfree hmax hlen ⊢
    obtain ⟨p, hp⟩ : ∃ p, p = t % n := ⟨_, rfl⟩
    rw [← hp] at hmax ⊢
    have hpn : p < n := by rw [hp]; exact Nat.mod_lt _ (by omega)
    have hnext : (t + 1) % n = if p + 1 = n then 0 else p + 1 := by
      rw [Nat.add_mod, ← hp]
      by_cases e : p + 1 = n
      · rw [if_pos e]
        by_cases h1 : n = 1
        · subst h1; omega
        · rw [Nat.mod_eq_of_lt (show 1 < n by omega), e, Nat.mod_self]
      · rw [if_neg e, Nat.mod_eq_of_lt (show 1 < n by omega), Nat.mod_eq_of_lt (by omega)]
    have hw : ∀ x : Nat, wor V (d.set b (p : Int)) i (x : Int) = wor V d i (x : Int) + (if (p : Int) = (x : Int) then (rowV V i).getD b 0 else 0) := by
      intro x
      rw [wor_set (by rw [hlen]; exact hbm), if_neg (by omega), Int.sub_zero]
    have hvb := row_nonneg hr hi b
    have hget : ∀ g, g ≠ b → (d.set b (p : Int)).getD g 0 = d.getD g 0 := by
      intro g hg
      rw [List.getD_eq_getElem?_getD, List.getElem?_set_ne (by omega), ← List.getD_eq_getElem?_getD]
    have hgetb : (d.set b (p : Int)).getD b 0 = (p : Int) := by
      rw [List.getD_eq_getElem?_getD, List.getElem?_set_self (by rw [hlen]; exact hbm)]; rfl
    have hfr : ∀ g, (d.set b (p : Int)).getD g 0 < 0 → d.getD g 0 < 0 := by
      intro g hg
      by_cases e : g = b
      · subst e; rw [hgetb] at hg; omega
      · rwa [hget g e] at hg
    constructor
    · intro hij
      obtain ⟨h1, h2⟩ := h.1 hij
      rw [← hp] at h2
      rw [hw, hw]
      by_cases e1 : p = i
      · subst e1
        rw [if_neg (by omega), if_pos rfl]
        refine ⟨by omega, fun _ _ g hg hf => ?_⟩
        have := hmax g hg (hfr g hf)
        omega
      · by_cases e2 : p = j
        · subst e2
          rw [if_pos rfl, if_neg (by omega)]
          have := h2 (by omega) (Nat.le_refl _) b hbm hfree
          refine ⟨by omega, fun ha hb' => ?_⟩
          rw [hnext] at ha hb'
          split at ha <;> split at hb' <;> omega
        · rw [if_neg (by omega), if_neg (by omega)]
          refine ⟨by omega, fun ha hb' g hg hf => ?_⟩
          rw [hnext] at ha hb'
          have h3 : i < p ∧ p ≤ j := by split at ha <;> split at hb' <;> omega
          have := h2 h3.1 h3.2 g hg (hfr g hf)
          omega
    · intro hji
      rcases h.2 hji with ⟨h1, h2⟩ | ⟨h1, f, hf, hdf, h3, h4⟩
      · by_cases e : t = j
        · subst e
          have hpt : p = t := by rw [hp]; exact Nat.mod_eq_of_lt hj
          subst hpt
          refine .inr ⟨by omega, b, hbm, hgetb, ?_, ?_⟩
          · rw [hw, hw, if_pos rfl, if_neg (by omega), h2]
            have := (worTo_bd (hr i hi).2 d (i : Int) d.length).1
            unfold wor; omega
          · intro hcase
            rw [hnext] at hcase
            split at hcase <;> omega
        · left
          refine ⟨by omega, ?_⟩
          have hpt : p = t := by rw [hp]; exact Nat.mod_eq_of_lt (by omega)
          rw [hw, if_neg (by omega), h2]; rfl
      · have hfb : f ≠ b := by rintro rfl; omega
        refine .inr ⟨by omega, f, hf, by rw [hget f hfb]; exact hdf, ?_, ?_⟩
        · rw [hw, hw]
          by_cases e2 : p = j
          · subst e2
            rw [if_pos rfl, if_neg (by omega)]
            have := h4 (.inl (by rw [← hp]; exact Nat.le_refl _)) b hbm hfree
            omega
          · rw [if_neg (by omega)]
            split <;> omega
        · intro hcase g hg hfg
          rw [hnext] at hcase
          rw [hw, hw]
          by_cases e1 : p = i
          · subst e1
            rw [if_neg (by omega), if_pos rfl]
            have := hmax g hg (hfr g hfg)
            omega
          · by_cases e2 : p = j
            · subst e2
              exfalso
              split at hcase <;> omega
            · rw [if_neg (by omega), if_neg (by omega)]
              have h5 : t % n ≤ j ∨ i < t % n := by
                rw [← hp]
                split at hcase <;> omega
              have := h4 h5 g hg (hfr g hfg)
              omega
theorem rnd_ef1 (hn : 1 ≤ n) (hr : ∀ i, i < n → (rowV V i).length = m ∧ ∀ x ∈ rowV V i, 0 ≤ x ∧ x ≤ 100) : ef1 V (rndTo V n m m) n := by
  intro i j hi hj he
  have he := of_decide_eq_true he
  have h := rnd_inv hn hr hi hj m (Nat.le_refl _)
  by_cases hij : i < j
  · have := (h.1 hij).1; omega
  · by_cases e : i = j
    · subst e; omega
    · rcases h.2 (by omega) with ⟨_, h2⟩ | ⟨_, f, hf, hdf, h3, _⟩
      · have := (worTo_bd (hr i hi).2 (rndTo V n m m) (i : Int) (rndTo V n m m).length).1
        unfold wor at he h2; omega
      · exact ⟨f, by rw [rndTo_length]; exact hf, hdf, h3⟩
end

/- The share of indivisible goods: the greatest least sum. Plain Lean. -/

/-- The greatest of f 0 .. f (k - 1), and of -1. -/
def maxTo (f : Nat → Int) : Nat → Int
  | 0 => -1
  | k + 1 => max (maxTo f k) (f k)
theorem maxTo_le (f : Nat → Int) (k : Nat) (c : Int) : maxTo f k ≤ c ↔ -1 ≤ c ∧ ∀ p, p < k → f p ≤ c := by
  induction k with
  | zero => simp [maxTo]
  | succ k ih =>
    simp only [maxTo, Int.max_le, ih]
    constructor
    · intro ⟨⟨a, b⟩, h⟩
      refine ⟨a, fun p hp => ?_⟩
      rcases Nat.lt_succ_iff_lt_or_eq.1 hp with h' | h'
      · exact b p h'
      · rw [h']; exact h
    · intro ⟨a, b⟩
      exact ⟨⟨a, fun p hp => b p (by omega)⟩, b k (by omega)⟩
theorem le_maxTo {f : Nat → Int} {k p : Nat} (h : p < k) : f p ≤ maxTo f k := ((maxTo_le f k _).1 (Int.le_refl _)).2 p h
theorem maxTo_neg (f : Nat → Int) (k : Nat) : -1 ≤ maxTo f k := ((maxTo_le f k _).1 (Int.le_refl _)).1
theorem maxTo_congr {f g : Nat → Int} {k : Nat} (h : ∀ p, p < k → f p = g p) : maxTo f k = maxTo g k := by
  induction k with
  | zero => rfl
  | succ k ih => simp only [maxTo]; rw [ih fun p hp => h p (by omega), h k (by omega)]

/-- A good is added to a part. -/
def addA (s : List Int) (p : Nat) (x : Int) : List Int := s.set p (s.getD p 0 + x)
theorem addA_length (s : List Int) (p : Nat) (x : Int) : (addA s p x).length = s.length := by simp [addA]
theorem addA_get (s : List Int) (p q : Nat) (x : Int) (h : q < s.length) : (addA s p x)[q]? = some (if q = p then s.getD p 0 + x else s.getD q 0) := by
  unfold addA
  rw [List.getElem?_set]
  by_cases e : p = q
  · subst e; simp [h]
  · rw [if_neg e, if_neg (fun h => e h.symm), List.getD_eq_getElem?_getD, List.getElem?_eq_getElem h]; rfl
theorem addA_back (s : List Int) (p : Nat) (x : Int) : addA (addA s p x) p (-x) = s := by
  unfold addA
  by_cases h : p < s.length
  · rw [List.set_set]
    have e : (s.set p (s.getD p 0 + x)).getD p 0 = s.getD p 0 + x := by simp [List.getD_eq_getElem?_getD, h]
    rw [e, Int.add_neg_cancel_right, List.getD_eq_getElem?_getD, List.getElem?_eq_getElem h]
    simp
  · rw [List.set_eq_of_length_le (by simp; omega), List.set_eq_of_length_le (by omega)]

/-- The greatest least sum, where parts that have nothing are tried once. -/
def sh : List Int → List Int → Nat → Int
  | [], s, _ => lmin s
  | x :: l, s, u => maxTo (fun p => sh l (addA s p x) (max u (p + 1))) (min (u + 1) s.length)
/-- The greatest least sum over all. -/
def fl : List Int → List Int → Int
  | [], s => lmin s
  | x :: l, s => maxTo (fun p => fl l (addA s p x)) s.length

theorem lmin_mem_ge {s : List Int} (h : s ≠ []) (c : Int) : c ≤ lmin s ↔ ∀ q, q < s.length → c ≤ s.getD q 0 := by
  rw [lmin_ge h]
  constructor
  · intro hh q hq
    rw [List.getD_eq_getElem?_getD, List.getElem?_eq_getElem hq]
    exact hh _ (List.getElem_mem hq)
  · intro hh x hx
    obtain ⟨q, hq, rfl⟩ := List.mem_iff_getElem.1 hx
    have := hh q hq
    rwa [List.getD_eq_getElem?_getD, List.getElem?_eq_getElem hq] at this
theorem addA_getD (s : List Int) (p q : Nat) (x : Int) (h : q < s.length) : (addA s p x).getD q 0 = s.getD q 0 + if q = p then x else 0 := by
  rw [List.getD_eq_getElem?_getD, addA_get s p q x h]
  by_cases e : q = p
  · subst e; simp
  · simp [e]
theorem addA_ne (s : List Int) (p : Nat) (x : Int) (h : s ≠ []) : addA s p x ≠ [] := by
  intro e; apply h; have := congrArg List.length e; rw [addA_length] at this; exact List.eq_nil_of_length_eq_zero (by simpa using this)

/-- Greater sums make the greatest least sum no less. -/
theorem fl_mono (l : List Int) : ∀ (s s' : List Int), s ≠ [] → s.length = s'.length → (∀ q, q < s.length → s.getD q 0 ≤ s'.getD q 0) → fl l s ≤ fl l s' := by
  induction l with
  | nil =>
    intro s s' hs hl h
    have hs' : s' ≠ [] := by rintro rfl; exact hs (List.eq_nil_of_length_eq_zero (by simpa using hl))
    show lmin s ≤ lmin s'
    rw [lmin_mem_ge hs']
    intro q hq
    exact Int.le_trans ((lmin_mem_ge hs _).1 (Int.le_refl _) q (by omega)) (h q (by omega))
  | cons x l ih =>
    intro s s' hs hl h
    show maxTo _ _ ≤ maxTo _ _
    rw [maxTo_le]
    refine ⟨maxTo_neg _ _, fun p hp => ?_⟩
    refine Int.le_trans (ih (addA s p x) (addA s' p x) (addA_ne s p x hs) (by rw [addA_length, addA_length, hl]) fun q hq => ?_) (le_maxTo (f := fun p => fl l (addA s' p x)) (by omega))
    rw [addA_length] at hq
    rw [addA_getD s p q x hq, addA_getD s' p q x (by omega)]
    have := h q hq
    omega

/-- Swap two parts. -/
def swp (s : List Int) (a b : Nat) : List Int := (s.set a (s.getD b 0)).set b (s.getD a 0)
theorem swp_length (s : List Int) (a b : Nat) : (swp s a b).length = s.length := by simp [swp]
def tr (a b q : Nat) : Nat := if q = a then b else if q = b then a else q
theorem tr_lt {a b q n : Nat} (ha : a < n) (hb : b < n) (hq : q < n) : tr a b q < n := by unfold tr; split <;> (try split) <;> omega
theorem tr_tr (a b q : Nat) : tr a b (tr a b q) = q := by unfold tr; repeat' split <;> (try omega)
theorem swp_getD (s : List Int) (a b q : Nat) (ha : a < s.length) (hb : b < s.length) (hq : q < s.length) : (swp s a b).getD q 0 = s.getD (tr a b q) 0 := by
  unfold swp tr
  rw [List.getD_eq_getElem?_getD, List.getElem?_set, List.getElem?_set]
  by_cases h1 : b = q
  · subst h1
    by_cases h2 : b = a
    · subst h2; simp [hb]
    · simp [hb, h2]
  · rw [if_neg h1]
    by_cases h2 : a = q
    · subst h2; simp [ha]
    · rw [if_neg h2, if_neg (fun h => h2 h.symm), if_neg (fun h => h1 h.symm), List.getD_eq_getElem?_getD]

/-- A permutation of two parts changes nothing. -/
theorem fl_tr (l : List Int) : ∀ (s s' : List Int) (a b : Nat), s ≠ [] → s.length = s'.length → a < s.length → b < s.length → (∀ q, q < s.length → s'.getD q 0 = s.getD (tr a b q) 0) → fl l s ≤ fl l s' := by
  induction l with
  | nil =>
    intro s s' a b hs hl ha hb h
    have hs' : s' ≠ [] := by rintro rfl; exact hs (List.eq_nil_of_length_eq_zero (by simpa using hl))
    show lmin s ≤ lmin s'
    rw [lmin_mem_ge hs']
    intro q hq
    rw [h q (by omega)]
    exact (lmin_mem_ge hs _).1 (Int.le_refl _) _ (tr_lt ha hb (by omega))
  | cons x l ih =>
    intro s s' a b hs hl ha hb h
    show maxTo _ _ ≤ maxTo _ _
    rw [maxTo_le]
    refine ⟨maxTo_neg _ _, fun p hp => ?_⟩
    refine Int.le_trans (ih (addA s p x) (addA s' (tr a b p) x) a b (addA_ne s p x hs) (by rw [addA_length, addA_length, hl]) (by rw [addA_length]; exact ha) (by rw [addA_length]; exact hb) fun q hq => ?_) (le_maxTo (f := fun p => fl l (addA s' p x)) (show tr a b p < _ by have := tr_lt ha hb hp; omega))
    rw [addA_length] at hq
    rw [addA_getD s' _ q x (by omega), addA_getD s p _ x (tr_lt ha hb hq), h q hq]
    congr 1
    by_cases e : q = tr a b p
    · rw [if_pos e, if_pos (by rw [e, tr_tr])]
    · rw [if_neg e, if_neg (fun h => e (by rw [← h, tr_tr]))]

/-- Parts that have nothing are alike: the narrowed search finds the greatest. -/
theorem sh_fl (l : List Int) : ∀ (s : List Int) (u : Nat), s ≠ [] → (∀ q, u ≤ q → q < s.length → s.getD q 0 = 0) → sh l s u = fl l s := by
  induction l with
  | nil => intro s u _ _; rfl
  | cons x l ih =>
    intro s u hs h0
    have e : ∀ p, p < s.length → p ≤ u → sh l (addA s p x) (max u (p + 1)) = fl l (addA s p x) := by
      intro p hp hpu
      refine ih _ _ (addA_ne s p x hs) fun q hq hql => ?_
      rw [addA_length] at hql
      rw [addA_getD s p q x hql, h0 q (by omega) hql, if_neg (by omega)]
      rfl
    have e1 : sh (x :: l) s u = maxTo (fun p => fl l (addA s p x)) (min (u + 1) s.length) := maxTo_congr fun p hp => e p (by omega) (by omega)
    rw [e1]
    show _ = maxTo (fun p => fl l (addA s p x)) s.length
    apply Int.le_antisymm
    · rw [maxTo_le]
      exact ⟨maxTo_neg _ _, fun p hp => le_maxTo (f := fun p => fl l (addA s p x)) (by omega)⟩
    · rw [maxTo_le]
      refine ⟨maxTo_neg _ _, fun p hp => ?_⟩
      by_cases hpu : p ≤ u
      · exact le_maxTo (f := fun p => fl l (addA s p x)) (by omega)
      · have hu : u < s.length := by omega
        refine Int.le_trans (fl_tr l (addA s p x) (addA s u x) p u (addA_ne s p x hs) (by rw [addA_length, addA_length]) (by rw [addA_length]; exact hp) (by rw [addA_length]; exact hu) fun q hq => ?_) (le_maxTo (f := fun p => fl l (addA s p x)) (show u < _ by omega))
        rw [addA_length] at hq
        rw [addA_getD s u q x hq, addA_getD s p _ x (tr_lt hp hu hq)]
        unfold tr
        by_cases h1 : q = p
        · subst h1
          rw [if_pos rfl, if_neg (by omega), if_neg (by omega), h0 q (by omega) hq, h0 u (Nat.le_refl _) hu]
        · by_cases h2 : q = u
          · subst h2
            rw [if_pos rfl, if_neg h1, if_pos rfl, if_pos rfl, h0 q (Nat.le_refl _) hq, h0 p (by omega) hp]
          · rw [if_neg h2, if_neg h1, if_neg h2, if_neg h1]

/- The share: bounds, and how it changes with people and goods. Plain Lean. -/

/-- The share of n people. -/
def shV (l : List Int) (n : Nat) : Int := sh l (List.replicate n 0) 0
theorem shV_fl {l : List Int} {n : Nat} (hn : 1 ≤ n) : shV l n = fl l (List.replicate n 0) := by
  refine sh_fl l _ 0 (by intro h; have := congrArg List.length h; simp at this; omega) fun q _ hq => ?_
  rw [List.length_replicate] at hq
  simp [List.getD_eq_getElem?_getD, hq]

theorem fl_ge (l : List Int) : ∀ (s : List Int) (c : Int), s ≠ [] → (∀ x ∈ l, 0 ≤ x) → (∀ q, q < s.length → c ≤ s.getD q 0) → c ≤ fl l s := by
  induction l with
  | nil => intro s c hs _ h; exact (lmin_mem_ge hs c).2 h
  | cons x l ih =>
    intro s c hs hx h
    have h0 : 0 < s.length := List.length_pos_iff.2 hs
    refine Int.le_trans (ih (addA s 0 x) c (addA_ne s 0 x hs) (fun y hy => hx y (List.mem_cons_of_mem _ hy)) fun q hq => ?_) (le_maxTo (f := fun p => fl l (addA s p x)) h0)
    rw [addA_length] at hq
    rw [addA_getD s 0 q x hq]
    have := h q hq
    have := hx x (List.mem_cons_self ..)
    split <;> omega

theorem sum_set (s : List Int) (p : Nat) (v : Int) (h : p < s.length) : (s.set p v).sum = s.sum - s.getD p 0 + v := by
  induction s generalizing p with
  | nil => simp at h
  | cons y s ih =>
    cases p with
    | zero => simp; omega
    | succ p =>
      simp only [List.set_cons_succ, List.sum_cons, List.getD_cons_succ]
      rw [ih p (by simpa using h)]
      omega
theorem addA_sum (s : List Int) (p : Nat) (x : Int) (h : p < s.length) : (addA s p x).sum = s.sum + x := by
  unfold addA; rw [sum_set s p _ h]; omega
theorem sum_ge (s : List Int) (c : Int) (h : ∀ x ∈ s, c ≤ x) : c * s.length ≤ s.sum := by
  induction s with
  | nil => simp
  | cons y s ih =>
    have h1 := h y (List.mem_cons_self ..)
    have h2 := ih fun x hx => h x (List.mem_cons_of_mem _ hx)
    simp only [List.length_cons, List.sum_cons]
    rw [show ((s.length + 1 : Nat) : Int) = (s.length : Int) + 1 by omega, Int.mul_add, Int.mul_one]
    omega
/-- The least sum times the people is at most all. -/
theorem fl_sum (l : List Int) : ∀ (s : List Int), s ≠ [] → (∀ x ∈ l, 0 ≤ x) → (∀ x ∈ s, 0 ≤ x) → fl l s * s.length ≤ s.sum + l.sum := by
  induction l with
  | nil =>
    intro s hs _ _
    have := sum_ge s (lmin s) ((lmin_ge hs _).1 (Int.le_refl _))
    show lmin s * s.length ≤ s.sum + ([] : List Int).sum
    simpa using this
  | cons x l ih =>
    intro s hs hl h0
    have hx := hl x (List.mem_cons_self ..)
    have hpos : 0 < s.length := List.length_pos_iff.2 hs
    have key : ∀ p, p < s.length → fl l (addA s p x) * s.length ≤ s.sum + (x :: l).sum := by
      intro p hp
      have hh := ih (addA s p x) (addA_ne s p x hs) (fun y hy => hl y (List.mem_cons_of_mem _ hy)) (by
        intro y hy
        obtain ⟨q, hq, rfl⟩ := List.mem_iff_getElem.1 hy
        have hq' : q < s.length := by rwa [addA_length] at hq
        have e : (addA s p x)[q] = s.getD q 0 + if q = p then x else 0 := by
          rw [← addA_getD s p q x hq', List.getD_eq_getElem?_getD, List.getElem?_eq_getElem hq]; rfl
        have hs0 : 0 ≤ s.getD q 0 := by rw [List.getD_eq_getElem?_getD, List.getElem?_eq_getElem hq']; exact h0 _ (List.getElem_mem hq')
        rw [e]; split <;> omega)
      rw [addA_length, addA_sum s p x hp] at hh
      simp only [List.sum_cons]
      omega
    have hmax : ∃ p, p < s.length ∧ fl (x :: l) s = fl l (addA s p x) := by
      have gen : ∀ (f : Nat → Int) (k : Nat), 0 < k → (∀ p, p < k → -1 ≤ f p) → ∃ p, p < k ∧ maxTo f k = f p := by
        intro f k
        induction k with
        | zero => intro h; omega
        | succ k ihk =>
          intro _ hf
          by_cases hk : k = 0
          · subst hk
            refine ⟨0, by omega, ?_⟩
            simp only [maxTo]
            have := hf 0 (by omega)
            omega
          · obtain ⟨p, hp, e⟩ := ihk (by omega) fun p hp => hf p (by omega)
            simp only [maxTo]
            by_cases hle : maxTo f k ≤ f k
            · exact ⟨k, by omega, Int.max_eq_right hle⟩
            · exact ⟨p, by omega, by rw [Int.max_eq_left (by omega)]; exact e⟩
      refine gen _ _ hpos fun p hp => ?_
      refine fl_ge l _ _ (addA_ne s p x hs) (fun y hy => hl y (List.mem_cons_of_mem _ hy)) fun q hq => ?_
      rw [addA_length] at hq
      rw [addA_getD s p q x hq, List.getD_eq_getElem?_getD, List.getElem?_eq_getElem hq]
      have := h0 _ (List.getElem_mem hq)
      simp only [Option.getD_some]
      split <;> omega
    obtain ⟨p, hp, e⟩ := hmax
    rw [e]
    exact key p hp

/-- One part more: none gets more. -/
theorem fl_more (l : List Int) : ∀ (s s' : List Int) (y : Int), s ≠ [] → s.length = s'.length → (∀ x ∈ l, 0 ≤ x) → (∀ q, q < s.length → s.getD q 0 ≤ s'.getD q 0) → fl l (s ++ [y]) ≤ fl l s' := by
  induction l with
  | nil =>
    intro s s' y hs hl _ h
    have hs' : s' ≠ [] := by rintro rfl; exact hs (List.eq_nil_of_length_eq_zero (by simpa using hl))
    show lmin (s ++ [y]) ≤ lmin s'
    rw [lmin_mem_ge hs']
    intro q hq
    have h1 := (lmin_mem_ge (s := s ++ [y]) (by simp) _).1 (Int.le_refl _) q (by simp; omega)
    have e : (s ++ [y]).getD q 0 = s.getD q 0 := by
      rw [List.getD_eq_getElem?_getD, List.getD_eq_getElem?_getD, List.getElem?_append_left (by omega)]
    rw [e] at h1
    exact Int.le_trans h1 (h q (by omega))
  | cons x l ih =>
    intro s s' y hs hl hx h
    have hx0 := hx x (List.mem_cons_self ..)
    have hxl : ∀ z ∈ l, 0 ≤ z := fun z hz => hx z (List.mem_cons_of_mem _ hz)
    have hpos : 0 < s.length := List.length_pos_iff.2 hs
    show maxTo _ _ ≤ maxTo _ _
    rw [maxTo_le]
    refine ⟨maxTo_neg _ _, fun p hp => ?_⟩
    rw [List.length_append, List.length_singleton] at hp
    by_cases hps : p < s.length
    · have e : addA (s ++ [y]) p x = addA s p x ++ [y] := by
        unfold addA
        rw [List.set_append_left _ _ hps, List.getD_eq_getElem?_getD, List.getD_eq_getElem?_getD, List.getElem?_append_left hps]
      rw [e]
      refine Int.le_trans (ih (addA s p x) (addA s' p x) y (addA_ne s p x hs) (by rw [addA_length, addA_length, hl]) hxl fun q hq => ?_) (le_maxTo (f := fun p => fl l (addA s' p x)) (show p < _ by omega))
      rw [addA_length] at hq
      rw [addA_getD s p q x hq, addA_getD s' p q x (by omega)]
      have := h q hq
      omega
    · obtain rfl : p = s.length := by omega
      have e : addA (s ++ [y]) s.length x = s ++ [y + x] := by
        unfold addA
        rw [List.set_append_right _ _ (Nat.le_refl _), List.getD_eq_getElem?_getD, List.getElem?_append_right (Nat.le_refl _)]
        simp
      rw [e]
      refine Int.le_trans (ih s (addA s' 0 x) (y + x) hs (by rw [addA_length, hl]) hxl fun q hq => ?_) (le_maxTo (f := fun p => fl l (addA s' p x)) (show 0 < _ by omega))
      rw [addA_getD s' 0 q x (by omega)]
      have := h q hq
      split <;> omega

theorem shV_nonneg {l : List Int} {n : Nat} (hn : 1 ≤ n) (hl : ∀ x ∈ l, 0 ≤ x) : 0 ≤ shV l n := by
  rw [shV_fl hn]
  refine fl_ge l _ 0 (by intro h; have := congrArg List.length h; simp at this; omega) hl fun q hq => ?_
  rw [List.length_replicate] at hq
  simp [List.getD_eq_getElem?_getD, hq]
theorem sum_zeros (n : Nat) : (List.replicate n (0 : Int)).sum = 0 := by
  induction n with
  | zero => rfl
  | succ n ih => rw [List.replicate_succ, List.sum_cons, ih]; rfl
theorem shV_sum {l : List Int} {n : Nat} (hn : 1 ≤ n) (hl : ∀ x ∈ l, 0 ≤ x) : shV l n * n ≤ l.sum := by
  rw [shV_fl hn]
  have h := fl_sum l (List.replicate n 0) (by intro h; have := congrArg List.length h; simp at this; omega) hl (fun x hx => by rw [List.eq_of_mem_replicate hx]; exact Int.le_refl _)
  rw [List.length_replicate, sum_zeros, Int.zero_add] at h
  exact h
theorem shV_more {l : List Int} {n : Nat} (hn : 1 ≤ n) (hl : ∀ x ∈ l, 0 ≤ x) : shV l (n + 1) ≤ shV l n := by
  rw [shV_fl hn, shV_fl (by omega), List.replicate_succ']
  exact fl_more l _ _ 0 (by intro h; have := congrArg List.length h; simp at this; omega) rfl hl fun q _ => Int.le_refl _
theorem shV_tail {x : Int} {l : List Int} {n : Nat} (hn : 1 ≤ n) (hl : ∀ y ∈ x :: l, 0 ≤ y) : shV l n ≤ shV (x :: l) n := by
  have hne : List.replicate n (0 : Int) ≠ [] := by intro h; have := congrArg List.length h; simp at this; omega
  rw [shV_fl hn, shV_fl hn]
  refine Int.le_trans (fl_mono l (List.replicate n 0) (addA (List.replicate n 0) 0 x) hne (by rw [addA_length]) fun q hq => ?_) (le_maxTo (f := fun p => fl l (addA (List.replicate n 0) p x)) (show 0 < _ by simp; omega))
  rw [addA_getD _ 0 q x hq]
  have := hl x (List.mem_cons_self ..)
  split <;> omega

/- Fair up to one gives everyone the share of twice as many people, less one: plain Lean. -/

theorem sumN_shift (f : Nat → Int) (n : Nat) : sumN f (n + 1) = f 0 + sumN (fun k => f (k + 1)) n := by
  induction n with
  | zero => simp [sumN]
  | succ n ih => rw [sumN, ih]; simp only [sumN]; omega
theorem sumN_congr {f g : Nat → Int} {n : Nat} (h : ∀ k, k < n → f k = g k) : sumN f n = sumN g n := by
  induction n with
  | zero => rfl
  | succ n ih => simp only [sumN]; rw [ih fun k hk => h k (by omega), h n (by omega)]
theorem sumN_swap (f : Nat → Nat → Int) (a b : Nat) : sumN (fun x => sumN (fun y => f x y) b) a = sumN (fun y => sumN (fun x => f x y) a) b := by
  induction a with
  | zero => simp only [sumN]; rw [sumN_zero]
  | succ a ih => simp only [sumN]; rw [ih, sumN_add]
theorem sumN_pick (n p : Nat) (x : Int) (h : p < n) : sumN (fun j => if p = j then x else 0) n = x := by
  refine Eq.trans (sumN_congr fun k _ => ?_) (sumN_one x p n h)
  by_cases e : p = k
  · rw [if_pos e, if_pos (by omega)]
  · rw [if_neg e, if_neg (by omega)]
theorem sumN_mul (c : Int) (f : Nat → Int) (n : Nat) : sumN (fun k => c * f k) n = c * sumN f n := by
  induction n with
  | zero => simp [sumN]
  | succ n ih => simp only [sumN]; rw [ih, Int.mul_add]
theorem sumN_const (c : Int) (n : Nat) : sumN (fun _ => c) n = c * n := by
  induction n with
  | zero => simp [sumN]
  | succ n ih => simp only [sumN]; rw [ih, show ((n + 1 : Nat) : Int) = (n : Int) + 1 by omega, Int.mul_add, Int.mul_one]
theorem maxTo_at (f : Nat → Int) (k : Nat) (hk : 0 < k) (hf : ∀ p, p < k → -1 ≤ f p) : ∃ p, p < k ∧ maxTo f k = f p := by
  induction k with
  | zero => omega
  | succ k ih =>
    by_cases h0 : k = 0
    · subst h0
      refine ⟨0, by omega, ?_⟩
      simp only [maxTo]
      have := hf 0 (by omega)
      omega
    · obtain ⟨p, hp, e⟩ := ih (by omega) fun p hp => hf p (by omega)
      simp only [maxTo]
      by_cases hle : maxTo f k ≤ f k
      · exact ⟨k, by omega, Int.max_eq_right hle⟩
      · exact ⟨p, by omega, by rw [Int.max_eq_left (by omega)]; exact e⟩

/-- The greatest least sum is had by some parts. -/
theorem fl_attain (l : List Int) : ∀ s : List Int, s ≠ [] → (∀ x ∈ l, 0 ≤ x) → (∀ q, q < s.length → 0 ≤ s.getD q 0) →
    ∃ p : List Nat, p.length = l.length ∧ (∀ k, k < l.length → p.getD k 0 < s.length) ∧ ∀ q, q < s.length → fl l s ≤ s.getD q 0 + sumN (fun k => if p.getD k 0 = q then l.getD k 0 else 0) l.length := by
  induction l with
  | nil =>
    intro s hs _ _
    refine ⟨[], rfl, fun k hk => by simp at hk, fun q hq => ?_⟩
    have := (lmin_mem_ge hs (lmin s)).1 (Int.le_refl _) q hq
    simp only [List.length_nil, sumN]
    show lmin s ≤ _
    omega
  | cons x l ih =>
    intro s hs hl h0
    have hx := hl x (List.mem_cons_self ..)
    have hll : ∀ y ∈ l, 0 ≤ y := fun y hy => hl y (List.mem_cons_of_mem _ hy)
    have hpos : 0 < s.length := List.length_pos_iff.2 hs
    have hadd : ∀ p, ∀ q, q < s.length → 0 ≤ (addA s p x).getD q 0 := by
      intro p q hq
      rw [addA_getD s p q x hq]
      have := h0 q hq
      split <;> omega
    obtain ⟨p0, hp0, e⟩ := maxTo_at (fun p => fl l (addA s p x)) s.length hpos fun p hp => by
      have := fl_ge l (addA s p x) 0 (addA_ne s p x hs) hll (fun q hq => hadd p q (by rwa [addA_length] at hq))
      omega
    obtain ⟨ps, h1, h2, h3⟩ := ih (addA s p0 x) (addA_ne s p0 x hs) hll (fun q hq => hadd p0 q (by rwa [addA_length] at hq))
    rw [addA_length] at h2 h3
    refine ⟨p0 :: ps, by simp [h1], fun k hk => ?_, fun q hq => ?_⟩
    · cases k with
      | zero => exact hp0
      | succ k => simp only [List.getD_cons_succ]; exact h2 k (by simpa using hk)
    · show maxTo _ _ ≤ _
      rw [e]
      have h4 := h3 q hq
      rw [addA_getD s p0 q x hq] at h4
      rw [List.length_cons, sumN_shift]
      simp only [List.getD_cons_zero, List.getD_cons_succ]
      by_cases eq : q = p0
      · rw [if_pos eq] at h4; rw [if_pos eq.symm]; omega
      · rw [if_neg eq] at h4; rw [if_neg (fun h => eq h.symm)]; omega

theorem worTo_sumN (row d : List Int) (j : Int) (g : Nat) : worTo row d j g = sumN (fun k => if d.getD k 0 = j then row.getD k 0 else 0) g := by
  induction g with
  | zero => rfl
  | succ g ih => simp only [worTo, sumN]; rw [ih]

theorem ef1_share {V : List (List Int)} {d : List Int} {n m i : Nat} (hn : 1 ≤ n) (hd : ∀ x ∈ d, 0 ≤ x ∧ x < (n : Int)) (hld : d.length = m) (hr : ∀ i, i < n → (rowV V i).length = m ∧ ∀ x ∈ rowV V i, 0 ≤ x ∧ x ≤ 100) (hi : i < n) (hef : ef1 V d n) :
    shV (rowV V i) (2 * n - 1) ≤ wor V d i (i : Int) := by
  obtain ⟨hrl, hrb⟩ := hr i hi
  have hnn : ∀ x ∈ rowV V i, 0 ≤ x := fun x hx => (hrb x hx).1
  obtain ⟨row, hrow⟩ : ∃ row, row = rowV V i := ⟨_, rfl⟩
  rw [← hrow] at hrl hrb hnn ⊢
  have hrk : ∀ k, 0 ≤ row.getD k 0 := by
    intro k
    rw [List.getD_eq_getElem?_getD]
    cases hx : row[k]? with
    | none => simp
    | some x => exact hnn x (List.mem_of_getElem? hx)
  obtain ⟨own, hown⟩ : ∃ own, own = wor V d i (i : Int) := ⟨_, rfl⟩
  rw [← hown]
  have hN : 1 ≤ 2 * n - 1 := by omega
  have hs0 := shV_nonneg (l := row) hN hnn
  rw [shV_fl hN] at hs0 ⊢
  obtain ⟨ps, hp1, hp2, hp3⟩ := fl_attain row (List.replicate (2 * n - 1) 0) (by intro h; have := congrArg List.length h; simp at this; omega) hnn (fun q hq => by
    rw [List.length_replicate] at hq
    rw [List.getD_eq_getElem?_getD, List.getElem?_replicate_of_lt hq]; simp)
  rw [List.length_replicate] at hp2 hp3
  generalize fl row (List.replicate (2 * n - 1) 0) = s0 at hs0 hp3 ⊢
  have hp3 : ∀ q, q < 2 * n - 1 → s0 ≤ sumN (fun k => if ps.getD k 0 = q then row.getD k 0 else 0) m := by
    intro q hq
    have h := hp3 q hq
    rw [List.getD_eq_getElem?_getD, List.getElem?_replicate_of_lt hq, hrl] at h
    simpa using h
  rw [hrl] at hp2
  -- a good of each one who is envied
  have hch : ∀ j, ∃ g : Nat, (g < m → j < n ∧ j ≠ i ∧ d.getD g 0 = (j : Int)) ∧ (j < n → wor V d i (j : Int) - (if g < m then row.getD g 0 else 0) ≤ own) := by
    intro j
    by_cases hj : j < n
    · by_cases he : envB V d i j = true
      · obtain ⟨g, hg, e, h⟩ := hef i j hi hj he
        rw [hld] at hg
        refine ⟨g, fun _ => ⟨hj, ?_, e⟩, fun _ => by rw [if_pos hg, hrow, hown]; exact h⟩
        rintro rfl
        simp [envB] at he
      · refine ⟨m, fun h => by omega, fun _ => ?_⟩
        have he' : envB V d i j = false := by simpa using he
        unfold envB at he'
        have := of_decide_eq_false he'
        rw [if_neg (by omega), hown]; omega
    · exact ⟨m, fun h => by omega, fun h => absurd h hj⟩
  obtain ⟨c, hc⟩ := Classical.axiomOfChoice hch
  have hdk : ∀ k, k < m → ∃ p : Nat, d.getD k 0 = (p : Int) ∧ p < n := fun k hk => getD_in hd (by omega)
  obtain ⟨R, hR⟩ : ∃ R : Nat → Int, R = fun k => if c (d.getD k 0).toNat = k then 1 else 0 := ⟨_, rfl⟩
  have hR01 : ∀ k, R k = 0 ∨ R k = 1 := by intro k; rw [hR]; simp only; split <;> simp
  -- at most n - 1 goods
  have h1 : sumN R m ≤ (n : Int) - 1 := by
    have e1 : sumN R m = sumN (fun k => sumN (fun j => if d.getD k 0 = (j : Int) ∧ c j = k then 1 else 0) n) m := sumN_congr fun k hk => by
      obtain ⟨p, hp, hpn⟩ := hdk k hk
      rw [hR]
      simp only [hp, Int.toNat_natCast]
      by_cases e : c p = k
      · rw [if_pos e]
        refine (Eq.trans (sumN_congr fun j _ => ?_) (sumN_pick n p 1 hpn)).symm
        · by_cases e2 : p = j
          · subst e2; rw [if_pos rfl, if_pos ⟨rfl, e⟩]
          · rw [if_neg e2, if_neg (fun h => e2 (by omega))]
      · rw [if_neg e]
        refine (Eq.trans (sumN_congr fun j _ => ?_) (sumN_zero n)).symm
        · rw [if_neg]
          rintro ⟨h, h2⟩
          have : p = j := by omega
          subst this
          exact e h2
    rw [e1, sumN_swap]
    have h2 : sumN (fun j => sumN (fun k => if d.getD k 0 = (j : Int) ∧ c j = k then 1 else 0) m) n ≤ sumN (fun j => 1 - (if i = j then 1 else 0)) n := sumN_mono n fun j hj => by
      have h3 : sumN (fun k => if d.getD k 0 = (j : Int) ∧ c j = k then (1 : Int) else 0) m ≤ sumN (fun k => if c j = k then (if c j < m then 1 else 0) * (if i = j then 0 else 1) else 0) m := sumN_mono m fun k hk => by
        by_cases e : c j = k
        · have hcj := (hc j).1 (by omega)
          rw [if_pos e, if_pos (show c j < m by omega), if_neg (show ¬ i = j from fun h => hcj.2.1 h.symm)]
          split <;> simp
        · rw [if_neg e, if_neg (fun h => e h.2)]
          exact Int.le_refl _
      refine Int.le_trans h3 ?_
      by_cases hcm : c j < m
      · rw [sumN_pick m (c j) _ hcm, if_pos hcm]
        split <;> simp
      · have e0 : sumN (fun k => if c j = k then (if c j < m then (1 : Int) else 0) * (if i = j then 0 else 1) else 0) m = 0 := by
          exact Eq.trans (sumN_congr fun k hk => by rw [if_neg (show ¬ c j = k by omega)]) (sumN_zero m)
        rw [e0]; split <;> simp
    refine Int.le_trans h2 ?_
    have e3 : sumN (fun j => (1 : Int) - (if i = j then 1 else 0)) n = sumN (fun _ => 1) n - sumN (fun j => if i = j then 1 else 0) n := by
      have := sumN_add (fun j => (1 : Int) - (if i = j then 1 else 0)) (fun j => if i = j then 1 else 0) n
      have e4 : sumN (fun j => (1 : Int) - (if i = j then 1 else 0) + (if i = j then 1 else 0)) n = sumN (fun _ => 1) n := sumN_congr fun j _ => by omega
      omega
    rw [e3, sumN_pick n i 1 hi, sumN_const]
    omega
  -- what the others are worth
  have h2 : sumN (fun k => row.getD k 0 * (1 - R k)) m ≤ own * n := by
    have e1 : sumN (fun k => row.getD k 0 * (1 - R k)) m = sumN (fun k => sumN (fun j => if d.getD k 0 = (j : Int) then row.getD k 0 * (1 - R k) else 0) n) m := sumN_congr fun k hk => by
      obtain ⟨p, hp, hpn⟩ := hdk k hk
      refine (Eq.trans (sumN_congr fun j _ => ?_) (sumN_pick n p (row.getD k 0 * (1 - R k)) hpn)).symm
      · rw [hp]
        by_cases e2 : p = j
        · rw [if_pos e2, if_pos (by omega)]
        · rw [if_neg e2, if_neg (by omega)]
    rw [e1, sumN_swap]
    refine sumN_le n fun j hj => ?_
    have h3 := (hc j).2 hj
    have e5 : wor V d i (j : Int) = sumN (fun k => if d.getD k 0 = (j : Int) then row.getD k 0 else 0) m := by unfold wor; rw [← hrow, hld, worTo_sumN]
    have e6 : (if c j < m then row.getD (c j) 0 else 0) = sumN (fun k => if c j = k then row.getD k 0 else 0) m := by
      by_cases hcm : c j < m
      · rw [if_pos hcm]
        refine (Eq.trans (sumN_congr fun k _ => ?_) (sumN_pick m (c j) (row.getD (c j) 0) hcm)).symm
        · by_cases e : c j = k
          · rw [if_pos e, if_pos e, e]
          · rw [if_neg e, if_neg e]
      · rw [if_neg hcm]
        exact (Eq.trans (sumN_congr fun k hk => by rw [if_neg (show ¬ c j = k by omega)]) (sumN_zero m)).symm
    rw [e5, e6] at h3
    have e7 : sumN (fun k => if d.getD k 0 = (j : Int) then row.getD k 0 * (1 - R k) else 0) m + sumN (fun k => if c j = k then row.getD k 0 else 0) m = sumN (fun k => if d.getD k 0 = (j : Int) then row.getD k 0 else 0) m := by
      rw [← sumN_add]
      refine sumN_congr fun k hk => ?_
      by_cases e : d.getD k 0 = (j : Int)
      · rw [if_pos e, if_pos e, hR]
        simp only [e, Int.toNat_natCast]
        by_cases e2 : c j = k
        · rw [if_pos e2, if_pos e2]; simp
        · rw [if_neg e2, if_neg e2]; simp
      · rw [if_neg e, if_neg e]
        by_cases e2 : c j = k
        · exact absurd (by rw [← e2]; exact ((hc j).1 (by omega)).2.2) e
        · rw [if_neg e2]; rfl
    omega
  -- parts without such goods
  obtain ⟨u, hu⟩ : ∃ u : Nat → Int, u = fun q => if ∃ k, k < m ∧ ps.getD k 0 = q ∧ R k = 1 then 1 else 0 := ⟨_, rfl⟩
  have hu01 : ∀ q, u q = 0 ∨ u q = 1 := by intro q; rw [hu]; simp only; split <;> simp
  have hup : ∀ k, k < m → R k ≤ u (ps.getD k 0) := by
    intro k hk
    rcases hR01 k with h | h
    · rcases hu01 (ps.getD k 0) with h' | h' <;> omega
    · rw [hu]; simp only; rw [if_pos ⟨k, hk, rfl, h⟩]; omega
  have h3 : sumN u (2 * n - 1) ≤ sumN R m := by
    have e1 : sumN R m = sumN (fun q => sumN (fun k => if ps.getD k 0 = q then R k else 0) m) (2 * n - 1) := by
      rw [sumN_swap]
      exact sumN_congr fun k hk => (sumN_pick (2 * n - 1) (ps.getD k 0) (R k) (hp2 k hk)).symm
    rw [e1]
    refine sumN_mono _ fun q _ => ?_
    have hnn0 : ∀ k, 0 ≤ (if ps.getD k 0 = q then R k else 0) := by
      intro k; split
      · rcases hR01 k with h | h <;> omega
      · exact Int.le_refl _
    by_cases hq : ∃ k, k < m ∧ ps.getD k 0 = q ∧ R k = 1
    · obtain ⟨k, hk, e2, e3⟩ := hq
      have h4 : sumN (fun k' => if k = k' then (1 : Int) else 0) m ≤ sumN (fun k => if ps.getD k 0 = q then R k else 0) m := sumN_mono m fun k' _ => by
        by_cases e4 : k = k'
        · subst e4; rw [if_pos rfl, if_pos e2, e3]; exact Int.le_refl _
        · rw [if_neg e4]; exact hnn0 k'
      rw [sumN_pick m k 1 hk] at h4
      rcases hu01 q with h | h <;> omega
    · have : u q = 0 := by rw [hu]; simp only; rw [if_neg hq]
      rw [this]
      have := sumN_mono (f := fun _ => 0) (g := fun k => if ps.getD k 0 = q then R k else 0) m fun k _ => hnn0 k
      rwa [sumN_zero] at this
  have h4 : sumN (fun q => sumN (fun k => if ps.getD k 0 = q then row.getD k 0 * (1 - u q) else 0) m) (2 * n - 1) ≤ sumN (fun k => row.getD k 0 * (1 - R k)) m := by
    rw [sumN_swap]
    refine sumN_mono m fun k hk => ?_
    have e1 : sumN (fun q => if ps.getD k 0 = q then row.getD k 0 * (1 - u q) else 0) (2 * n - 1) = row.getD k 0 * (1 - u (ps.getD k 0)) := by
      refine Eq.trans (sumN_congr fun q _ => ?_) (sumN_pick (2 * n - 1) (ps.getD k 0) (row.getD k 0 * (1 - u (ps.getD k 0))) (hp2 k hk))
      · by_cases e : ps.getD k 0 = q
        · rw [if_pos e, if_pos e, e]
        · rw [if_neg e, if_neg e]
    rw [e1]
    exact Int.mul_le_mul_of_nonneg_left (by have := hup k hk; omega) (hrk k)
  have h5 : s0 * sumN (fun q => 1 - u q) (2 * n - 1) ≤ sumN (fun q => sumN (fun k => if ps.getD k 0 = q then row.getD k 0 * (1 - u q) else 0) m) (2 * n - 1) := by
    rw [← sumN_mul]
    refine sumN_mono _ fun q hq => ?_
    rcases hu01 q with h | h
    · rw [h]
      simp only [Int.sub_zero, Int.mul_one]
      exact hp3 q hq
    · rw [h]
      simp only [Int.sub_self, Int.mul_zero]
      have e0 : sumN (fun k => if ps.getD k 0 = q then (0 : Int) else 0) m = 0 := by
        exact Eq.trans (sumN_congr fun k _ => by split <;> rfl) (sumN_zero m)
      rw [e0]; exact Int.le_refl _
  have h6 : (n : Int) ≤ sumN (fun q => 1 - u q) (2 * n - 1) := by
    have e1 := sumN_add (fun q => 1 - u q) u (2 * n - 1)
    have e2 : sumN (fun q => 1 - u q + u q) (2 * n - 1) = sumN (fun _ => 1) (2 * n - 1) := sumN_congr fun q _ => by omega
    rw [e2, sumN_const] at e1
    omega
  have h7 : s0 * n ≤ own * n := Int.le_trans (Int.mul_le_mul_of_nonneg_left h6 hs0) (Int.le_trans h5 (Int.le_trans h4 h2))
  exact Int.le_of_mul_le_mul_right h7 (by omega)

/- Values times numbers above 0, person by person: the same envy, the same fairness, the same rounds and cycles. Plain Lean. -/

/-- Each row of V' is that of V times a number above 0. -/
def ScaledV (V V' : List (List Int)) (n : Nat) : Prop := ∀ i, i < n → ∃ c : Int, 0 < c ∧ rowV V' i = (rowV V i).map (c * ·)

theorem map_getD (l : List Int) (c : Int) (g : Nat) : (l.map (c * ·)).getD g 0 = c * l.getD g 0 := by
  rw [List.getD_eq_getElem?_getD, List.getD_eq_getElem?_getD, List.getElem?_map]
  cases l[g]? <;> simp
theorem worTo_map (l d : List Int) (c j : Int) (g : Nat) : worTo (l.map (c * ·)) d j g = c * worTo l d j g := by
  induction g with
  | zero => simp [worTo]
  | succ g ih =>
    simp only [worTo]
    rw [ih, map_getD, Int.mul_add]
    by_cases h : d.getD g 0 = j
    · rw [if_pos h, if_pos h]
    · rw [if_neg h, if_neg h, Int.mul_zero]
theorem sum_map (l : List Int) (c : Int) : (l.map (c * ·)).sum = c * l.sum := by
  induction l with
  | nil => simp
  | cons x l ih => simp only [List.map_cons, List.sum_cons]; rw [ih, Int.mul_add]
theorem lt_scale {c a b : Int} (h : 0 < c) : c * a < c * b ↔ a < b := ⟨fun h2 => Int.lt_of_mul_lt_mul_left h2 (Int.le_of_lt h), fun h2 => Int.mul_lt_mul_of_pos_left h2 h⟩
theorem le_scale {c a b : Int} (h : 0 < c) : c * a ≤ c * b ↔ a ≤ b := ⟨fun h2 => Int.le_of_mul_le_mul_left h2 h, fun h2 => Int.mul_le_mul_of_nonneg_left h2 (Int.le_of_lt h)⟩
theorem mostTo_map (l d : List Int) (c : Int) (h : 0 < c) (i g : Nat) : mostTo (l.map (c * ·)) d i g = c * mostTo l d i g := by
  induction g with
  | zero => simp [mostTo]
  | succ g ih =>
    simp only [mostTo]
    by_cases e : d.getD g 0 = (i : Int)
    · rw [if_pos e, if_pos e, ih]
    · rw [if_neg e, if_neg e, ih, map_getD]
      by_cases h2 : mostTo l d i g ≤ l.getD g 0
      · rw [Int.max_eq_right h2, Int.max_eq_right ((le_scale h).2 h2)]
      · have h3 : l.getD g 0 ≤ mostTo l d i g := by omega
        rw [Int.max_eq_left h3, Int.max_eq_left ((le_scale h).2 h3)]
theorem find_congr {α : Type} {p q : α → Bool} : ∀ {l : List α}, (∀ x ∈ l, p x = q x) → l.find? p = l.find? q
  | [], _ => rfl
  | x :: l, h => by
    simp only [List.find?_cons]
    rw [h x (List.mem_cons_self ..), find_congr fun y hy => h y (List.mem_cons_of_mem _ hy)]
theorem all_congr {α : Type} {p q : α → Bool} {l : List α} (h : ∀ x ∈ l, p x = q x) : l.all p = l.all q := by
  induction l with
  | nil => rfl
  | cons x l ih => simp only [List.all_cons]; rw [h x (List.mem_cons_self ..), ih fun y hy => h y (List.mem_cons_of_mem _ hy)]

section
variable {V V' : List (List Int)} {n : Nat}
theorem sc_env (h : ScaledV V V' n) {i : Nat} (hi : i < n) (d : List Int) (j : Nat) : envB V' d i j = envB V d i j := by
  obtain ⟨c, hc, e⟩ := h i hi
  unfold envB wor
  rw [e, worTo_map, worTo_map, Bool.eq_iff_iff, decide_eq_true_iff, decide_eq_true_iff, lt_scale hc]
theorem sc_envL (h : ScaledV V V' n) (d : List Int) : envL V' d n = envL V d n := by
  have key : ∀ k, k ≤ n → envTo V' d n k = envTo V d n k := by
    intro k
    induction k with
    | zero => intro _; rfl
    | succ k ih =>
      intro hk
      rw [envTo_succ, envTo_succ, ih (by omega)]
      congr 1
      unfold envRow
      congr 2
      funext j
      exact sc_env h (by omega) d j
  exact key n (Nat.le_refl _)
theorem sc_enough (h : ScaledV V V' n) {i : Nat} (hi : i < n) (d : List Int) (j g : Nat) : enough V' d i j g = enough V d i j g := by
  obtain ⟨c, hc, e⟩ := h i hi
  unfold enough wor
  rw [e, worTo_map, worTo_map, map_getD, Bool.eq_iff_iff, decide_eq_true_iff, decide_eq_true_iff, ← Int.mul_sub, le_scale hc]
theorem sc_up (h : ScaledV V V' n) {i : Nat} (hi : i < n) (d : List Int) (j : Nat) (any : Bool) : upB V' d i j any = upB V d i j any := by
  unfold upB upTo someE eachE
  have e : enough V' d i j = enough V d i j := funext fun g => sc_enough h hi d j g
  rw [e]
theorem sc_part (h : ScaledV V V' n) {i : Nat} (hi : i < n) (d : List Int) (kind : Int) : partB V' d n i (moreK V' d kind i) = partB V d n i (moreK V d kind i) := by
  obtain ⟨c, hc, e⟩ := h i hi
  have em : moreK V' d kind i = c * moreK V d kind i := by
    unfold moreK
    split
    · rw [e, mostTo_map _ _ _ hc]
    · rw [Int.mul_zero]
  unfold partB
  rw [em]
  unfold wor
  rw [e, worTo_map, sum_map, Bool.eq_iff_iff, decide_eq_true_iff, decide_eq_true_iff, ← Int.mul_add, Int.mul_assoc, le_scale hc]
theorem sc_fair (h : ScaledV V V' n) (d : List Int) (kind : Int) : fairB V' d n kind = fairB V d n kind := by
  unfold fairB
  split
  · refine all_congr fun i hi => all_congr fun j _ => ?_
    have hi := List.mem_range.1 hi
    rw [sc_env h hi]
    unfold okE
    rw [sc_up h hi, sc_up h hi]
  · exact all_congr fun i hi => sc_part h (List.mem_range.1 hi) d kind
theorem sc_calm (h : ScaledV V V' n) (d : List Int) : calmO V' d n = calmO V d n := by
  unfold calmO
  refine find_congr fun j _ => all_congr fun i hi => ?_
  rw [sc_env h (List.mem_range.1 hi)]
theorem sc_cyc (h : ScaledV V V' n) (d : List Int) : cycO V' d n = cycO V d n := by
  unfold cycO
  congr 1
  funext k
  refine find_congr fun l hl => ?_
  obtain ⟨_, _, hlb⟩ := mem_perms hl
  unfold isC
  refine all_congr fun x hx => ?_
  exact sc_env h (hlb _ (getD_memN (List.mem_range.1 hx))) d _
theorem sc_settle (h : ScaledV V V' n) (f : Nat) : ∀ d, settle V' n f d = settle V n f d := by
  induction f with
  | zero => intro d; rfl
  | succ f ih => intro d; simp only [settle]; rw [sc_calm h, sc_cyc h, ih]
theorem sc_cycTo (h : ScaledV V V' n) (m g : Nat) : cycTo V' n m g = cycTo V n m g := by
  induction g with
  | zero => rfl
  | succ g ih => simp only [cycTo]; rw [ih, sc_settle h, sc_calm h]
theorem bestTo_map (l d : List Int) (c : Int) (h : 0 < c) (k : Nat) : bestTo (l.map (c * ·)) d k = bestTo l d k := by
  induction k with
  | zero => rfl
  | succ k ih =>
    simp only [bestTo]
    rw [ih, map_getD, map_getD]
    simp only [lt_scale h]
theorem sc_rnd (h : ScaledV V V' n) (hn : 0 < n) (m t : Nat) : rndTo V' n m t = rndTo V n m t := by
  induction t with
  | zero => rfl
  | succ t ih =>
    obtain ⟨c, hc, e⟩ := h (t % n) (Nat.mod_lt _ hn)
    simp only [rndTo]
    rw [ih, e, bestTo_map _ _ _ hc]
end

theorem foldl_min_map (c : Int) (h : 0 < c) (l : List Int) : ∀ x, (l.map (c * ·)).foldl min (c * x) = c * l.foldl min x := by
  induction l with
  | nil => intro x; rfl
  | cons y l ih =>
    intro x
    simp only [List.map_cons, List.foldl_cons]
    rw [← ih]
    congr 1
    by_cases h2 : x ≤ y
    · rw [Int.min_eq_left h2, Int.min_eq_left ((le_scale h).2 h2)]
    · have h3 : y ≤ x := by omega
      rw [Int.min_eq_right h3, Int.min_eq_right ((le_scale h).2 h3)]
theorem lmin_map (c : Int) (h : 0 < c) : ∀ l : List Int, lmin (l.map (c * ·)) = c * lmin l
  | [] => by simp [lmin]
  | x :: l => foldl_min_map c h l x
theorem maxTo_map (f : Nat → Int) (c : Int) (h : 0 < c) (k : Nat) (hk : 0 < k) (hf : ∀ p, p < k → 0 ≤ f p) : maxTo (fun p => c * f p) k = c * maxTo f k := by
  obtain ⟨p, hp, e⟩ := maxTo_at f k hk fun p hp => by have := hf p hp; omega
  have h1 := (maxTo_le f k (maxTo f k)).1 (Int.le_refl _)
  have h2 := (maxTo_le (fun p => c * f p) k (maxTo (fun p => c * f p) k)).1 (Int.le_refl _)
  have h3 : c * f p ≤ maxTo (fun p => c * f p) k := h2.2 p hp
  have h4 : maxTo (fun p => c * f p) k ≤ c * maxTo f k := (maxTo_le _ _ _).2 ⟨by
    rw [e]; have := Int.mul_nonneg (Int.le_of_lt h) (hf p hp); omega, fun q hq => (le_scale h).2 (h1.2 q hq)⟩
  rw [← e] at h3
  omega
theorem addA_map (c : Int) (s : List Int) (p : Nat) (x : Int) : addA (s.map (c * ·)) p (c * x) = (addA s p x).map (c * ·) := by
  unfold addA
  rw [map_getD, ← Int.mul_add, List.map_set]
theorem fl_map (c : Int) (h : 0 < c) (l : List Int) : ∀ s : List Int, s ≠ [] → (∀ x ∈ l, 0 ≤ x) → (∀ q, q < s.length → 0 ≤ s.getD q 0) → fl (l.map (c * ·)) (s.map (c * ·)) = c * fl l s := by
  induction l with
  | nil => intro s _ _ _; exact lmin_map c h s
  | cons x l ih =>
    intro s hs hl h0
    have hx := hl x (List.mem_cons_self ..)
    have hll : ∀ y ∈ l, 0 ≤ y := fun y hy => hl y (List.mem_cons_of_mem _ hy)
    have hadd : ∀ p, ∀ q, q < (addA s p x).length → 0 ≤ (addA s p x).getD q 0 := by
      intro p q hq
      rw [addA_length] at hq
      rw [addA_getD s p q x hq]
      have := h0 q hq
      have : 0 ≤ s.getD p 0 + x ∨ ¬ q = p := by
        by_cases e : q = p
        · subst e; left; omega
        · exact .inr e
      split
      · omega
      · omega
    show maxTo (fun p => fl (l.map (c * ·)) (addA (s.map (c * ·)) p (c * x))) (s.map (c * ·)).length = c * maxTo (fun p => fl l (addA s p x)) s.length
    have e : (fun p => fl (l.map (c * ·)) (addA (s.map (c * ·)) p (c * x))) = fun p => c * fl l (addA s p x) := by
      funext p
      rw [addA_map]
      exact ih _ (addA_ne s p x hs) hll (hadd p)
    rw [e, List.length_map]
    exact maxTo_map _ c h _ (List.length_pos_iff.2 hs) fun p _ => fl_ge l (addA s p x) 0 (addA_ne s p x hs) hll (hadd p)
theorem shV_map (c : Int) (h : 0 < c) {l : List Int} {n : Nat} (hn : 1 ≤ n) (hl : ∀ x ∈ l, 0 ≤ x) : shV (l.map (c * ·)) n = c * shV l n := by
  rw [shV_fl hn, shV_fl hn, ← fl_map c h l _ (by intro h; have := congrArg List.length h; simp at this; omega) hl (fun q hq => by
    rw [List.length_replicate] at hq
    rw [List.getD_eq_getElem?_getD, List.getElem?_replicate_of_lt hq]; simp)]
  simp

/- Contracts: low and sums of the reference (package corrodyref01). -/

theorem lmin_fold (x : Int) (l : List Int) : (x :: l).foldl min x = lmin (x :: l) := by
  show l.foldl min (min x x) = l.foldl min x
  rw [Int.min_self]

set_option maxHeartbeats 800000 in
theorem r1low_any (A : Option Addr) (n cap : Nat) (r : List Int) (w : World) (hl : r.length = n) (hp : 0 < n) (hn : n ≤ 9223372036854775807) (hI : Ints w A r) :
    Calls Try.prog 61 #[.slice A n cap] w fun e w' => e = .returned (.int .i64 (lmin r)) ∧ w = w' := by
  obtain ⟨x0, t, hr⟩ : ∃ x0 t, r = x0 :: t := by
    cases r with
    | nil => simp at hl; omega
    | cons x t => exact ⟨x, t, rfl⟩
  obtain ⟨ad, rfl, hc0⟩ := hI 0 (.int .i64 x0) (by rw [hr]; rfl)
  have c0 : w.cell? ad = some (.int .i64 x0) := hc0
  have HF : Hid (r.foldl min x0 = lmin r) := Lib.hid (by rw [hr]; exact lmin_fold x0 t)
  have H := Lib.hid (And.intro hl hI)
  have l0 : (0 : Int) < (n : Int) := by omega
  clear hl hI hc0 hr
  go_enter Try.func61, Try.ntmps61
  go_wp2_with fail
  go_loop [3, 11] (fun v i => ∃ k : Nat, k ≤ n ∧ i = .int .i64 k ∧ v = .int .i64 ((r.take k).foldl min x0)) (fun _ i => n - (intOf i).toNat)
  case atStart => exact ⟨0, Nat.zero_le _, rfl, rfl⟩
  case round =>
    obtain ⟨k, hk, rfl, rfl⟩ := hrel
    by_cases hlt : k < n
    · obtain ⟨x, hx⟩ : ∃ x, r[k]? = some x := ⟨_, List.getElem?_eq_getElem (by have := H.out.1; omega)⟩
      obtain ⟨ad', had, hc⟩ := H.out.2 k (.int .i64 x) (by rw [List.getElem?_map, hx]; rfl)
      injection had with had
      subst had
      have HN : Hid ((r.take (k + 1)).foldl min x0 = min ((r.take k).foldl min x0) x) := Lib.hid (by rw [List.take_add_one, hx, List.foldl_append]; rfl)
      have l1 : (k : Int) < (n : Int) := by omega
      clear hx
      generalize (r.take k).foldl min x0 = v at *
      go_wp2_with fail
      go_round
      case rel => exact ⟨k + 1, by omega, by go_num, by rw [HN.out]; exact val_int (by split <;> omega)⟩
      case measure => simp [intOf]; omega
    · have HT : Hid ((r.take k).foldl min x0 = lmin r) := Lib.hid (by rw [List.take_of_length_le (by rw [H.out.1]; omega)]; exact HF.out)
      go_wp2_with fail
      go_ret
      exact ⟨ret_int HT.out, rfl⟩

/-- What the parts are worth after k goods. -/
def sumsTo (l d : List Int) (n : Nat) : Nat → List Int
  | 0 => List.replicate n 0
  | k + 1 => addA (sumsTo l d n k) (d.getD k 0).toNat (l.getD k 0)
theorem sumsTo_length (l d : List Int) (n k : Nat) : (sumsTo l d n k).length = n := by
  induction k with
  | zero => simp [sumsTo]
  | succ k ih => rw [sumsTo, addA_length, ih]
theorem sumsTo_bd {l d : List Int} {n : Nat} (hl : ∀ x ∈ l, 0 ≤ x ∧ x ≤ 100) (k q : Nat) (hq : q < n) : 0 ≤ (sumsTo l d n k).getD q 0 ∧ (sumsTo l d n k).getD q 0 ≤ 100 * k := by
  induction k with
  | zero => simp [sumsTo, List.getD_eq_getElem?_getD, hq]
  | succ k ih =>
    have hx : 0 ≤ l.getD k 0 ∧ l.getD k 0 ≤ 100 := by
      rw [List.getD_eq_getElem?_getD]
      cases h : l[k]? with
      | none => simp
      | some x => exact hl x (List.mem_of_getElem? h)
    rw [sumsTo, addA_getD _ _ q _ (by rw [sumsTo_length]; exact hq)]
    split <;> omega

set_option maxHeartbeats 800000 in
theorem r1sums_any (A D : Option Addr) (m cap capd n : Nat) (l d : List Int) (w : World) (hl : l.length = m) (hm : m ≤ 7) (hld : d.length = m) (hn : n ≤ 7) (hlb : ∀ x ∈ l, 0 ≤ x ∧ x ≤ 100) (hdb : ∀ x ∈ d, 0 ≤ x ∧ x < n) (hI : Ints w A l) (hD : Ints w D d) :
    Calls Try.prog 62 #[.slice A m cap, .slice D m capd, .int .i64 n] w fun e w' => ∃ g, e = .returned (.slice (some ⟨g, 0, none⟩) n n) ∧ Blk w' g 3 (arr (sumsTo l d n m)) ∧ w.heap.size ≤ g ∧ Below w.heap.size w w' := by
  have hmk := make_ints n (by omega) w
  have H := Lib.hid (And.intro hl (And.intro hld (And.intro hlb (And.intro hdb (And.intro hI hD)))))
  clear hl hld hlb hdb hI hD
  go_enter Try.func62, Try.ntmps62
  go_wp2_with fail
  go_loopw [14] (fun i wr => ∃ k : Nat, k ≤ m ∧ i = .int .i64 k ∧ Blk wr w.heap.size 3 (arr (sumsTo l d n k)) ∧ Below w.heap.size w wr) (fun i _ => m - (intOf i).toNat)
  case atStart => exact ⟨0, Nat.zero_le _, rfl, Blk.new _ _ _ rfl, (Below.refl _ _).alloc (Nat.le_refl _) _⟩
  case round =>
    obtain ⟨k, hk, rfl, hB, hbl⟩ := hrel
    have HB := Lib.hid (And.intro hB hbl)
    clear hB hbl
    by_cases hlt : k < m
    · obtain ⟨hl, hld, hlb, hdb, hI, hD⟩ := H.out
      obtain ⟨x, hx⟩ : ∃ x, l[k]? = some x := ⟨_, List.getElem?_eq_getElem (by omega)⟩
      obtain ⟨y, hy⟩ : ∃ y, d[k]? = some y := ⟨_, List.getElem?_eq_getElem (by omega)⟩
      obtain ⟨ad, rfl, hcx⟩ := hI k (.int .i64 x) (by rw [List.getElem?_map, hx]; rfl)
      obtain ⟨dd, rfl, hcy⟩ := hD k (.int .i64 y) (by rw [List.getElem?_map, hy]; rfl)
      have hyb := hdb y (List.mem_of_getElem? hy)
      have hxb := hlb x (List.mem_of_getElem? hx)
      obtain ⟨p, rfl⟩ : ∃ p : Nat, y = (p : Int) := ⟨y.toNat, by omega⟩
      have hp : p < n := by omega
      have hcx2 := (HB.out.2.cell (lt_of_cell hcx)).trans hcx
      have hcy2 := (HB.out.2.cell (lt_of_cell hcy)).trans hcy
      have hsb := sumsTo_bd (d := d) (n := n) hlb k p hp
      obtain ⟨z, hz⟩ : ∃ z, (sumsTo l d n k)[p]? = some z := ⟨_, List.getElem?_eq_getElem (by rw [sumsTo_length]; exact hp)⟩
      have hzd : (sumsTo l d n k).getD p 0 = z := by rw [List.getD_eq_getElem?_getD, hz]; rfl
      rw [hzd] at hsb
      have c3 : wr.cell? ⟨w.heap.size, p, none⟩ = some (.int .i64 z) := by rw [HB.out.1.cell, arr_get, hz]; rfl
      have f3 : wr.frozen? ⟨w.heap.size, p, none⟩ = false := HB.out.1.frozen p
      have hN : sumsTo l d n (k + 1) = (sumsTo l d n k).set p (z + x) := by
        have ex : l.getD k 0 = x := by rw [List.getD_eq_getElem?_getD, hx]; rfl
        have ey : d.getD k 0 = (p : Int) := by rw [List.getD_eq_getElem?_getD, hy]; rfl
        rw [sumsTo, addA, ex, ey, Int.toNat_natCast, hzd]
      have HNEW := Lib.hid hN
      have l1 : (k : Int) < (m : Int) := by omega
      have l2 : (p : Int) < (n : Int) := by omega
      clear hl hld hlb hdb hI hD hx hy hz hzd hN hcx hcy
      go_wp2_with fail
      go_region
      go_wp2_with fail
      go_roundw
      case rel =>
        refine ⟨k + 1, by omega, by go_num, ?_, HB.out.2.drew.setCell (Nat.le_refl _) _⟩
        rw [HNEW.out, ← arr_set]
        exact Blk.set_ (w := wr.drew) HB.out.1 p _
      case measure => simp [intOf]; omega
    · obtain rfl : k = m := by omega
      go_wp2_with fail
      go_ret
      exact ⟨_, rfl, HB.out.1, Nat.le_refl _, HB.out.2⟩

/- Contract: shared and Share of the reference (package corrodyref01). -/

theorem sh_ge (l : List Int) : ∀ (s : List Int) (u : Nat) (c : Int), s ≠ [] → (∀ x ∈ l, 0 ≤ x) → (∀ q, q < s.length → c ≤ s.getD q 0) → c ≤ sh l s u := by
  induction l with
  | nil => intro s u c hs _ h; exact (lmin_mem_ge hs c).2 h
  | cons x l ih =>
    intro s u c hs hx h
    have h0 : 0 < s.length := List.length_pos_iff.2 hs
    refine Int.le_trans (ih (addA s 0 x) (max u (0 + 1)) c (addA_ne s 0 x hs) (fun y hy => hx y (List.mem_cons_of_mem _ hy)) fun q hq => ?_) (le_maxTo (f := fun p => sh l (addA s p x) (max u (p + 1))) (show 0 < min (u + 1) s.length by omega))
    rw [addA_length] at hq
    rw [addA_getD s 0 q x hq]
    have := h q hq
    have := hx x (List.mem_cons_self ..)
    split <;> omega

/-- One number of an owned slice is set. -/
theorem own_set {w : World} {base g n c p : Nat} {s : List Int} (h : w.ownsRow base 3 1 (.slice (some ⟨g, 0, none⟩) n c) n (s.map (Value.int .i64))) (hp : p < n) (y : Int) :
    w.frozen? ⟨g, p, none⟩ = false ∧ Ints (w.setCell ⟨g, p, none⟩ (.int .i64 y)) (some ⟨g, 0, none⟩) (s.set p y) := by
  rcases h.2 with ⟨h0, _⟩ | ⟨g', cap, cur, hv, _, hg, hnc, _, hcs, htake⟩
  · cases h0
  · injection hv with h1 _ _
    injection h1 with h1
    injection h1 with h1
    subst h1
    have hB : Blk w g 3 cur := hg
    refine ⟨hB.frozen p, ?_⟩
    have hB2 := hB.set_ p (.int .i64 y)
    have hn : s.length = n := by have := h.1; simpa using this
    intro i u hu
    refine ⟨⟨g, 0, none⟩, rfl, ?_⟩
    have e : (⟨g, 0, none⟩ : Addr).add i = ⟨g, i, none⟩ := by cases i <;> simp [Addr.add]
    rw [e, hB2.cell]
    rw [List.getElem?_map] at hu
    have hi : i < n := by
      cases h : (s.set p y)[i]? with
      | none => rw [h] at hu; cases hu
      | some z => have := (List.getElem?_eq_some_iff.1 h).1; rw [List.length_set] at this; omega
    have hcur : cur[i]? = (s[i]?).map (Value.int .i64) := by
      rw [← List.getElem?_map, ← htake, List.getElem?_take_of_lt (by omega), Array.getElem?_toList]
    by_cases hpi : p = i
    · subst hpi
      rw [List.getElem?_set_self (by omega)] at hu
      rw [← hu]
      simp only [Option.map_some]
      rw [Array.getElem?_setIfInBounds_self_of_lt (by omega)]
    · rw [List.getElem?_set_ne hpi] at hu
      rw [Array.getElem?_setIfInBounds_ne hpi, hcur, hu]

set_option maxRecDepth 100000 in
set_option maxHeartbeats 1600000 in
theorem r1shared_any (n : Nat) (hn : 1 ≤ n ∧ n ≤ 7) (l : List Int) : ∀ (A : Option Addr) (m cap : Nat) (S : Option Addr) (caps u : Nat) (s : List Int) (w : World), l.length = m → m ≤ 7 → m ≤ cap → cap ≤ 9223372036854775807 → s.length = n → n ≤ caps → caps ≤ 9223372036854775807 → u ≤ 7 → (∀ x ∈ l, 0 ≤ x ∧ x ≤ 100) → (∀ q, q < n → 0 ≤ s.getD q 0 ∧ s.getD q 0 ≤ 100 * (7 - m : Nat)) → Ints w A l → Ints w S s →
    Calls Try.prog 60 #[.slice A m cap, .slice S n caps, .int .i64 u] w fun e w' => e = .returned (.int .i64 (sh l s u)) ∧ Below w.heap.size w w' := by
  induction l with
  | nil =>
    intro A m cap S caps u s w hl hm hmc hcm hs hsc hsm hu hlb hsb hA hS
    obtain rfl : m = 0 := by simpa using hl.symm
    have H := Lib.hid (And.intro hs hS)
    clear hl hs hlb hsb hA hS
    go_enter Try.func60, Try.ntmps60
    go_wp2_with fail
    refine (r1low_any S n caps s _ H.out.1 (by omega) (by omega) H.out.2).mono ?_
    rintro e w' ⟨rfl, rfl⟩
    go_wp2_with fail
    go_ret
    exact ⟨rfl, Below.refl _ _⟩
  | cons x l ih =>
    intro A m cap S caps u s w hl hm hmc hcm hs hsc hsm hu hlb hsb hA hS
    have IH := Lib.hid ih
    have hne : ((m : Int) == 0) = false := by rw [beq_eq_false_iff_ne]; simp at hl; omega
    have hm1 : 1 ≤ m := by simp at hl; omega
    obtain ⟨ad, rfl, hcx⟩ := hA 0 (.int .i64 x) rfl
    have cx : w.cell? ad = some (.int .i64 x) := hcx
    have hxb := hlb x (List.mem_cons_self ..)
    obtain ⟨sd, rfl, hsdc⟩ := hS 0 (.int .i64 (s[0]'(by omega))) (by rw [List.getElem?_map, List.getElem?_eq_getElem (by omega)]; rfl)
    obtain ⟨K, hK⟩ : ∃ K : Nat, K = min (u + 1) n := ⟨_, rfl⟩
    have hK2 : min ((u : Int) + 1) (n : Int) = (K : Int) := by omega
    have hK3 : 1 ≤ K ∧ K ≤ n := by omega
    have hsne : s ≠ [] := by rintro rfl; simp at hs; omega
    have hsh : sh (x :: l) s u = maxTo (fun p => sh l (addA s p x) (max u (p + 1))) K := by rw [hK, ← hs]; rfl
    have h0 : 0 ≤ sh (x :: l) s u := sh_ge (x :: l) s u 0 hsne (fun y hy => (hlb y hy).1) fun q hq => (hsb q (by omega)).1
    have H := Lib.hid (And.intro hl (And.intro hs (And.intro hlb (And.intro hsb (And.intro hA (And.intro hS (And.intro hsh h0)))))))
    clear hsdc hl hs hlb hsb hA hS ih hcx hsh h0 hsne hK
    go_enter Try.func60, Try.ntmps60
    go_wp2_with fail
    all_goals
      go_loopw [7, 20] (fun bv pv wr => ∃ p : Nat, p ≤ K ∧ pv = .int .i64 p ∧ bv = .int .i64 (max 0 (maxTo (fun p => sh l (addA s p x) (max u (p + 1))) p)) ∧ Below w.heap.size w wr) (fun _ pv _ => K - (intOf pv).toNat)
      case atStart => exact ⟨0, Nat.zero_le _, rfl, rfl, Below.refl _ _⟩
      case round =>
        obtain ⟨p, hp, rfl, rfl, hbl⟩ := hrel
        have HB := Lib.hid hbl
        have hwr := hbl.size
        clear hbl
        by_cases hlt : p < K
        · have l1 : (p : Int) < (n : Int) := by omega
          have l2 : (p : Int) < (u : Int) + 1 := by omega
          have HM : Hid (maxTo (fun p => sh l (addA s p x) (max u (p + 1))) (p + 1) = max (maxTo (fun p => sh l (addA s p x) (max u (p + 1))) p) (sh l (addA s p x) (max u (p + 1)))) := Lib.hid rfl
          generalize maxTo (fun p => sh l (addA s p x) (max u (p + 1))) p = mv at HM ⊢
          go_wp2_with (at_builtin; refine appN sty_int rfl _ _ rfl wr.heap.size (some ⟨wr.heap.size, 0, none⟩) 0 0 [] rfl ?d1 (some sd) n caps (s.map (Value.int .i64)) (fun h => by cases h) ?d2 ?d3 ?d4 rfl (by omega) (by go_size) ?_)
          case d1 => exact own_new (w := wr) 3 #[] (show 0 ≤ maxLen by decide)
          case d2 => rw [List.length_map, H.out.2.1, Nat.mul_one]
          case d3 => exact (H.out.2.2.2.2.2.1.below HB.out).below ((Below.refl _ _).alloc (Nat.le_refl _) _)
          case d4 => exact ints_one _
          intro A6 k6 w6 hown6 _ hbl6 hk61 hk62
          have hb6 : Below w.heap.size w w6 := HB.out.trans ((((Below.refl _ _).alloc (Nat.le_refl _) _).trans hbl6).mono hwr)
          obtain ⟨g6, hA6, hg6, _⟩ := own_some hown6 (by omega)
          subst hA6
          obtain ⟨z, hz⟩ : ∃ z, s[p]? = some z := ⟨_, List.getElem?_eq_getElem (by rw [H.out.2.1]; omega)⟩
          have hzd : s.getD p 0 = z := by rw [List.getD_eq_getElem?_getD, hz]; rfl
          have hzb := H.out.2.2.2.1 p (by omega)
          rw [hzd] at hzb
          obtain ⟨ad6, had6, hc6⟩ := At.of_own hown6 p (.int .i64 z) (by rw [List.getElem?_map, hz]; rfl)
          injection had6 with had6
          subst had6
          have c6 : w6.cell? ⟨g6, p, none⟩ = some (.int .i64 z) := by
            have e : (⟨g6, 0, none⟩ : Addr).add p = ⟨g6, p, none⟩ := by cases p <;> simp [Addr.add]
            rwa [e] at hc6
          have cx6 : w6.cell? ad = some (.int .i64 x) := (hb6.cell (lt_of_cell cx)).trans cx
          obtain ⟨f6, hI6⟩ := own_set hown6 (show p < n by omega) (z + x)
          have hadd : s.set p (z + x) = addA s p x := by unfold addA; rw [hzd]
          rw [hadd] at hI6
          have H6 := Lib.hid (And.intro hI6 (And.intro hb6 hg6))
          have l3 : (0 : Int) < (m : Int) := by omega
          have hzu : 0 ≤ z ∧ z ≤ 700 := by omega
          have hrec : ∀ (A' : Option Addr) (c' : Nat) (uv : Int) (w7 : World), m - 1 ≤ c' → c' ≤ 9223372036854775807 → uv = ((max u (p + 1) : Nat) : Int) → Ints w7 A' l → Ints w7 (some ⟨g6, 0, none⟩) (addA s p x) →
              Calls Try.prog 60 #[.slice A' (m - 1) c', .slice (some ⟨g6, 0, none⟩) n k6, .int .i64 uv] w7 fun e w' => e = .returned (.int .i64 (sh l (addA s p x) (max u (p + 1)))) ∧ Below w7.heap.size w7 w' := by
            intro A' c' uv w7 q1 q2 q3 q4 q5
            subst q3
            have hl' : l.length = m - 1 := by have := H.out.1; simp at this; omega
            refine IH.out A' (m - 1) c' _ k6 _ (addA s p x) w7 hl' (by omega) q1 q2 (by rw [addA_length]; exact H.out.2.1) hk61 hk62 (by omega) (fun y hy => H.out.2.2.1 y (List.mem_cons_of_mem _ hy)) (fun q hq => ?_) q4 q5
            rw [addA_getD s p q x (by rw [H.out.2.1]; exact hq)]
            have := H.out.2.2.2.1 q hq
            split <;> omega
          have REC := Lib.hid hrec
          have HL : Hid (∀ w7, Below w.heap.size w w7 → Ints w7 (some ⟨ad.block, ad.off + 1, none⟩) l) := Lib.hid fun w7 hb7 i u hu => ⟨_, rfl, by
            obtain ⟨ad2, h1, h2⟩ := (H.out.2.2.2.2.1.below hb7) (i + 1) u (by simpa using hu)
            injection h1 with h1
            subst h1
            have e : (⟨ad.block, ad.off + 1, none⟩ : Addr).add i = ad.add (i + 1) := by cases i <;> simp [Addr.add]; omega
            rw [e]; exact h2⟩
          clear hrec
          have HB7 : Hid (Below w.heap.size w ((w6.setCell ⟨g6, p, none⟩ (.int .i64 (z + x))).drew)) := Lib.hid ((H6.out.2.1.setCell (by show w.heap.size ≤ g6; have := H6.out.2.2; omega) _).drew)
          have HNIL : Hid (m ≤ 1 → ∀ w7 A', Ints w7 A' l) := Lib.hid fun hm1' w7 A' => by
            have hl0 : l = [] := by have := H.out.1; simp at this; exact List.eq_nil_of_length_eq_zero (by omega)
            subst hl0
            intro i u hu
            simp at hu
          clear hown6 hbl6 hb6 hz hzd hzb hc6 hI6 hadd
          go_wp2_with fail
          go_region
          go_wp2_with fail
          all_goals
            refine Calls.mono (REC.out _ _ _ _ ?_ ?_ ?_ ?_ ?_) ?_
            · omega
            · omega
            · omega
            · first | exact HL.out _ HB7.out | exact HNIL.out (by omega) _ _
            · exact H6.out.1
          all_goals
            rintro e w8 ⟨rfl, hb8⟩
            have HB8 := Lib.hid (HB7.out.trans (hb8.mono HB7.out.size))
            clear hb8
            generalize sh l (addA s p x) (max u (p + 1)) = sv at HM ⊢
            obtain ⟨bv, hbv⟩ : ∃ bv, bv = max 0 mv := ⟨_, rfl⟩
            rw [← hbv]
            have HBV := Lib.hid hbv
            clear hbv
            by_cases hms : bv < sv
            · have HN2 : Hid (max 0 (maxTo (fun p => sh l (addA s p x) (max u (p + 1))) (p + 1)) = sv) := Lib.hid (by rw [HM.out]; have := HBV.out; omega)
              go_wp2_with fail
              go_roundw
              case rel => first | exact ⟨p + 1, by omega, by go_num, by rw [HN2.out], HB8.out⟩ | (obtain rfl : cap = 1 := (by omega); (repeat apply Exists.intro); exact ⟨⟨p + 1, by omega, by go_num, by rw [HN2.out], HB8.out⟩, rfl⟩)
              case measure => simp [intOf]; omega
            · have HN2 : Hid (max 0 (maxTo (fun p => sh l (addA s p x) (max u (p + 1))) (p + 1)) = bv) := Lib.hid (by rw [HM.out]; have := HBV.out; omega)
              go_wp2_with fail
              go_roundw
              case rel => first | exact ⟨p + 1, by omega, by go_num, by rw [HN2.out], HB8.out⟩ | (obtain rfl : cap = 1 := (by omega); (repeat apply Exists.intro); exact ⟨⟨p + 1, by omega, by go_num, by rw [HN2.out], HB8.out⟩, rfl⟩)
              case measure => simp [intOf]; omega
        · obtain rfl : p = K := by omega
          have HF : Hid (max 0 (maxTo (fun p => sh l (addA s p x) (max u (p + 1))) p) = sh (x :: l) s u) := Lib.hid (by rw [← H.out.2.2.2.2.2.2.1]; exact Int.max_eq_right H.out.2.2.2.2.2.2.2)
          rw [HF.out]
          go_wp2_with fail
          go_ret
          exact ⟨rfl, HB.out⟩

/- The memory that share (package split) works on. -/

theorem sumsTo_congr {l d d' : List Int} {n k : Nat} (h : ∀ i, i < k → d'.getD i 0 = d.getD i 0) : sumsTo l d' n k = sumsTo l d n k := by
  induction k with
  | zero => rfl
  | succ k ih => simp only [sumsTo]; rw [ih fun i hi => h i (by omega), h k (by omega)]
theorem getD_set (l : List Int) (i j : Nat) (y : Int) (h : i < l.length) : (l.set i y).getD j 0 = if j = i then y else l.getD j 0 := by
  rw [List.getD_eq_getElem?_getD, List.getElem?_set]
  by_cases e : i = j
  · subst e; simp [h]
  · rw [if_neg e, if_neg (fun h => e h.symm), List.getD_eq_getElem?_getD]
theorem getD_get {l : List Int} {i : Nat} (h : i < l.length) : l[i]? = some (l.getD i 0) := by
  rw [List.getD_eq_getElem?_getD, List.getElem?_eq_getElem h]; rfl

/-- What the search stands on. -/
structure SX where
  w0 : World
  ad : Addr
  B : Nat
  m : Nat
  n : Nat
  cap : Nat
  l : List Int
structure SX.ok (X : SX) : Prop where
  hB : X.B = X.w0.heap.size
  hm : 1 ≤ X.m ∧ X.m ≤ 7
  hn : 1 ≤ X.n ∧ X.n ≤ 7
  hl : X.l.length = X.m
  hlb : ∀ x ∈ X.l, 0 ≤ x ∧ x ≤ 100
  hI : Ints X.w0 (some X.ad) X.l

/-- What the inner function captures. -/
def SX.caps (X : SX) : Array Value := #[.pointer (some ⟨X.B, 0, none⟩), .pointer (some ⟨X.B + 7, 0, none⟩), .pointer (some ⟨X.B + 2, 0, none⟩), .pointer (some ⟨X.B + 5, 0, none⟩), .pointer (some ⟨X.B + 3, 0, none⟩), .pointer (some ⟨X.B + 1, 0, none⟩), .pointer (some ⟨X.B + 8, 0, none⟩)]

/-- The best so far. -/
def SX.found (X : SX) (b : Int) (pv : Value) (w : World) : Prop :=
  (b = -1 ∧ pv = .slice none 0 0) ∨
  (∃ (g c : Nat) (p : List Int), 0 ≤ b ∧ pv = .slice (some ⟨g, 0, none⟩) X.m c ∧ X.m ≤ c ∧ c ≤ 9223372036854775807 ∧ X.B + 8 < g ∧ p.length = X.m ∧ (∀ x ∈ p, 0 ≤ x ∧ x < X.n) ∧ Ints w (some ⟨g, 0, none⟩) p ∧ lmin (sumsTo X.l p X.n X.m) = b)

structure SX.st (X : SX) (dl s : List Int) (b : Int) (w : World) : Prop where
  bl : Blk w X.B 23 #[.slice (some X.ad) X.m X.cap]
  bn : Blk w (X.B + 1) 3 #[.int .i64 X.n]
  bb : Blk w (X.B + 2) 3 #[.int .i64 b]
  bd : Blk w (X.B + 4) 3 (arr dl)
  bD : Blk w (X.B + 5) 64 #[.slice (some ⟨X.B + 4, 0, none⟩) X.m X.m]
  bs : Blk w (X.B + 6) 3 (arr s)
  bS : Blk w (X.B + 7) 23 #[.slice (some ⟨X.B + 6, 0, none⟩) X.n X.n]
  bt : Blk w (X.B + 8) 95 #[.func (.func 92) #[] X.caps]
  fnd : ∃ pv, Blk w (X.B + 3) 64 #[pv] ∧ X.found b pv w
  bel : Below X.B X.w0 w
  dll : dl.length = X.m
  sl : s.length = X.n
  bm : -1 ≤ b

theorem SX.found.far {X : SX} {b : Int} {pv : Value} {w : World} (h : X.found b pv w) {p : Addr} (hp : p.block ≤ X.B + 8) (v : Value) : X.found b pv (w.setCell p v) := by
  rcases h with h | ⟨g, c, q, h1, h2, h3, h4, h5, h6, h7, h8, h9⟩
  · exact .inl h
  · exact .inr ⟨g, c, q, h1, h2, h3, h4, h5, h6, h7, ints_far h8 (fun ad ha => by injection ha with ha; subst ha; show g ≠ p.block; omega) _, h9⟩

theorem SX.st.drew {X : SX} {dl s : List Int} {b : Int} {w : World} (h : X.st dl s b w) : X.st dl s b w.drew :=
  ⟨h.bl, h.bn, h.bb, h.bd, h.bD, h.bs, h.bS, h.bt, h.fnd, h.bel.drew, h.dll, h.sl, h.bm⟩
/-- A good is put into a part. -/
theorem SX.st.put {X : SX} {dl s : List Int} {b : Int} {w : World} (h : X.st dl s b w) (i : Nat) (y : Int) : X.st (dl.set i y) s b (w.setCell ⟨X.B + 4, i, none⟩ (.int .i64 y)) := by
  obtain ⟨pv, h1, h2⟩ := h.fnd
  refine ⟨h.bl.far (by show X.B ≠ X.B + 4; omega) _, h.bn.far (by show X.B + 1 ≠ X.B + 4; omega) _, h.bb.far (by show X.B + 2 ≠ X.B + 4; omega) _, ?_, h.bD.far (by show X.B + 5 ≠ X.B + 4; omega) _,
    h.bs.far (by show X.B + 6 ≠ X.B + 4; omega) _, h.bS.far (by show X.B + 7 ≠ X.B + 4; omega) _, h.bt.far (by show X.B + 8 ≠ X.B + 4; omega) _, ⟨pv, h1.far (by show X.B + 3 ≠ X.B + 4; omega) _, h2.far (by show X.B + 4 ≤ X.B + 8; omega) _⟩,
    h.bel.setCell (by show X.B ≤ X.B + 4; omega) _, by rw [List.length_set]; exact h.dll, h.sl, h.bm⟩
  rw [← arr_set]; exact h.bd.set_ i _
/-- A part's worth is changed. -/
theorem SX.st.sum {X : SX} {dl s : List Int} {b : Int} {w : World} (h : X.st dl s b w) (i : Nat) (y : Int) : X.st dl (s.set i y) b (w.setCell ⟨X.B + 6, i, none⟩ (.int .i64 y)) := by
  obtain ⟨pv, h1, h2⟩ := h.fnd
  refine ⟨h.bl.far (by show X.B ≠ X.B + 6; omega) _, h.bn.far (by show X.B + 1 ≠ X.B + 6; omega) _, h.bb.far (by show X.B + 2 ≠ X.B + 6; omega) _, h.bd.far (by show X.B + 4 ≠ X.B + 6; omega) _, h.bD.far (by show X.B + 5 ≠ X.B + 6; omega) _,
    ?_, h.bS.far (by show X.B + 7 ≠ X.B + 6; omega) _, h.bt.far (by show X.B + 8 ≠ X.B + 6; omega) _, ⟨pv, h1.far (by show X.B + 3 ≠ X.B + 6; omega) _, h2.far (by show X.B + 6 ≤ X.B + 8; omega) _⟩,
    h.bel.setCell (by show X.B ≤ X.B + 6; omega) _, h.dll, by rw [List.length_set]; exact h.sl, h.bm⟩
  rw [← arr_set]; exact h.bs.set_ i _
theorem SX.st.size {X : SX} {dl s : List Int} {b : Int} {w : World} (h : X.st dl s b w) : X.B + 9 ≤ w.heap.size := by have := h.bt.lt; omega
/-- The best is new. -/
theorem SX.st.best {X : SX} {dl s : List Int} {b : Int} {w w2 : World} (h : X.st dl s b w) (hb : Below w.heap.size w w2) {g c : Nat} (hI : Ints w2 (some ⟨g, 0, none⟩) dl) (hg : w.heap.size ≤ g) (hc : X.m ≤ c) (hc2 : c ≤ 9223372036854775807)
    (hd : ∀ x ∈ dl, 0 ≤ x ∧ x < X.n) {v : Int} (hv : lmin (sumsTo X.l dl X.n X.m) = v) (h0 : 0 ≤ v) :
    X.st dl s v ((w2.setCell ⟨X.B + 2, 0, none⟩ (.int .i64 v)).setCell ⟨X.B + 3, 0, none⟩ (.slice (some ⟨g, 0, none⟩) X.m c)) := by
  have hs := h.size
  obtain ⟨pv, h1, _⟩ := h.fnd
  refine ⟨((h.bl.below hb (by omega)).far (by show X.B ≠ X.B + 2; omega) _).far (by show X.B ≠ X.B + 3; omega) _, ((h.bn.below hb (by omega)).far (by show X.B + 1 ≠ X.B + 2; omega) _).far (by show X.B + 1 ≠ X.B + 3; omega) _,
    ((h.bb.below hb (by omega)).set_ 0 _).far (by show X.B + 2 ≠ X.B + 3; omega) _, ((h.bd.below hb (by omega)).far (by show X.B + 4 ≠ X.B + 2; omega) _).far (by show X.B + 4 ≠ X.B + 3; omega) _,
    ((h.bD.below hb (by omega)).far (by show X.B + 5 ≠ X.B + 2; omega) _).far (by show X.B + 5 ≠ X.B + 3; omega) _, ((h.bs.below hb (by omega)).far (by show X.B + 6 ≠ X.B + 2; omega) _).far (by show X.B + 6 ≠ X.B + 3; omega) _,
    ((h.bS.below hb (by omega)).far (by show X.B + 7 ≠ X.B + 2; omega) _).far (by show X.B + 7 ≠ X.B + 3; omega) _, ((h.bt.below hb (by omega)).far (by show X.B + 8 ≠ X.B + 2; omega) _).far (by show X.B + 8 ≠ X.B + 3; omega) _,
    ⟨.slice (some ⟨g, 0, none⟩) X.m c, ((h1.below hb (by omega)).far (by show X.B + 3 ≠ X.B + 2; omega) _).set_ 0 _, .inr ⟨g, c, dl, h0, rfl, hc, hc2, by omega, h.dll, hd, ?_, hv⟩⟩,
    ((h.bel.trans (hb.mono (by omega))).setCell (by show X.B ≤ X.B + 2; omega) _).setCell (by show X.B ≤ X.B + 3; omega) _, h.dll, h.sl, by omega⟩
  exact ints_far (ints_far hI (fun ad ha => by injection ha with ha; subst ha; show g ≠ X.B + 2; omega) _) (fun ad ha => by injection ha with ha; subst ha; show g ≠ X.B + 3; omega) _

/- Contract: the inner function of share (package split): it tries all parts for the goods that are left. -/

/-- What the inner function leaves: the best is raised to what can be had from here. -/
def SX.post (X : SX) (g u : Nat) (dl s : List Int) (b : Int) (e : Ending) (w' : World) : Prop :=
  e = .returned (.tuple #[]) ∧ ∃ dl' : List Int, (∀ i, i < g → dl'.getD i 0 = dl.getD i 0) ∧ X.st dl' s (max b (sh (X.l.drop g) s u)) w'

set_option maxRecDepth 100000 in
set_option maxHeartbeats 1600000 in
theorem try_full (X : SX) (hx : X.ok) (u : Nat) (dl s : List Int) (b : Int) (w : World) (hst : X.st dl s b w) (hs : s = sumsTo X.l dl X.n X.m) (hd : ∀ i, i < X.m → 0 ≤ dl.getD i 0 ∧ dl.getD i 0 < X.n) :
    Calls Try.prog 92 #[.int .i64 X.m, .int .i64 u, .pointer (some ⟨X.B, 0, none⟩), .pointer (some ⟨X.B + 7, 0, none⟩), .pointer (some ⟨X.B + 2, 0, none⟩), .pointer (some ⟨X.B + 5, 0, none⟩), .pointer (some ⟨X.B + 3, 0, none⟩), .pointer (some ⟨X.B + 1, 0, none⟩), .pointer (some ⟨X.B + 8, 0, none⟩)] w (X.post X.m u dl s b) := by
  have hsh : sh (X.l.drop X.m) s u = lmin s := by rw [List.drop_of_length_le (by rw [hx.hl]; omega)]; rfl
  have hm7 := hx.hm
  have hn7 := hx.hn
  have hsne : s ≠ [] := by intro h; have := hst.sl; rw [h] at this; simp at this; omega
  have hv0 : 0 ≤ lmin s := by
    rw [lmin_mem_ge hsne]
    intro q hq
    rw [hs]
    exact (sumsTo_bd hx.hlb X.m q (by rw [← hst.sl]; exact hq)).1
  have hmem : ∀ x ∈ dl, 0 ≤ x ∧ x < X.n := by
    intro x hxm
    obtain ⟨i, hi, rfl⟩ := List.mem_iff_getElem.1 hxm
    have := hd i (by rw [← hst.dll]; exact hi)
    rwa [List.getD_eq_getElem?_getD, List.getElem?_eq_getElem hi] at this
  have hlm : lmin (sumsTo X.l dl X.n X.m) = lmin s := by rw [← hs]
  obtain ⟨pv, hpv, _⟩ := hst.fnd
  obtain ⟨a1, b1⟩ := hst.bl.at1
  obtain ⟨a2, b2⟩ := hst.bS.at1
  obtain ⟨a3, b3⟩ := hst.bb.at1
  obtain ⟨a4, b4⟩ := hst.bD.at1
  obtain ⟨a5, b5⟩ := hpv.at1
  have H := Lib.hid (And.intro hst (And.intro hsh (And.intro hmem (And.intro hlm hx.hm))))
  have hmm : ((X.m : Int) == (X.m : Int)) = true := by simp
  have hIs : Ints w (some ⟨X.B + 6, 0, none⟩) s := blk_ints hst.bs
  have HIS := Lib.hid (And.intro hIs (And.intro hst.sl (blk_ints hst.bd)))
  obtain ⟨sv, hsv⟩ : ∃ sv, sv = lmin s := ⟨_, rfl⟩
  rw [← hsv] at hv0
  have HSV := Lib.hid hsv
  have hwsz := hst.size
  clear hst hsh hmem hlm hIs hs hd hx hpv hsne hsv
  by_cases hgt : b < sv
  · go_enter Try.func92, Try.ntmps92
    go_wp2_with fail
    refine (min_any _ X.n X.n s _ HIS.out.2.1 (by omega) (by omega) HIS.out.1).mono ?_
    rw [← HSV.out]
    rintro e w1 ⟨rfl, rfl⟩
    go_wp2_with fail
    refine (cloneD_any _ X.m X.m dl _ H.out.1.dll (by omega) HIS.out.2.2).mono ?_
    rintro e w2 ⟨A2, c2, rfl, hown2, hb2⟩
    have hI2 : Ints w2 A2 dl := At.of_own hown2
    obtain ⟨g, rfl, hg, _⟩ := own_some hown2 (by omega)
    obtain ⟨_, _, he2, hc21, hc22, _⟩ := own_form hown2
    injection he2 with e4 _ e5
    subst e4
    subst e5
    have hF := H.out.1.best hb2 hI2 hg hc21 hc22 H.out.2.2.1 (H.out.2.2.2.1.trans HSV.out.symm) hv0
    obtain ⟨pv', hpv', _⟩ := H.out.1.fnd
    have q3 := H.out.1.bb.below hb2 (by omega)
    have q5 := hpv'.below hb2 (by omega)
    obtain ⟨a6, b6⟩ := q3.at1
    obtain ⟨a7, b7⟩ := q5.at1
    have HF := Lib.hid hF
    clear hF hI2 hown2 hb2 hpv' q3 q5 a1 b1 a2 b2 a3 b3 a4 b4 a5 b5
    go_wp2_with fail
    go_end0
    refine ⟨rfl, dl, fun _ _ => rfl, ?_⟩
    rw [H.out.2.1, ← HSV.out, Int.max_eq_right (by omega)]
    exact HF.out
  · go_enter Try.func92, Try.ntmps92
    go_wp2_with fail
    refine (min_any _ X.n X.n s _ HIS.out.2.1 (by omega) (by omega) HIS.out.1).mono ?_
    rw [← HSV.out]
    rintro e w1 ⟨rfl, rfl⟩
    go_wp2_with fail
    go_end0
    refine ⟨rfl, dl, fun _ _ => rfl, ?_⟩
    rw [H.out.2.1, ← HSV.out, Int.max_eq_left (by omega)]
    exact H.out.1
end Go.Proofs.Ytkljambjdiblkaa
