/- All divisions, as the reference makes them; contract of Divisions. -/
import Derived.Test.YtkljambjdiblkaaApp4
import Derived.Test.YtkljambjdiblkaaSMat
import Derived.Test.YtkljambjdiblkaaSDivLaw
import Derived.Test.YtkljambjdiblkaaSNash1
namespace Go.Proofs.Ytkljambjdiblkaa
open Go.RowKit

/-- Each person below i ahead of each list. -/
def divsTo (L : List (List Int)) (i : Nat) : List (List Int) := (List.range i).flatMap fun j : Nat => L.map (List.cons (j : Int))
def divs (n : Nat) : Nat → List (List Int)
  | 0 => [[]]
  | m + 1 => divsTo (divs n m) n
theorem divsTo_succ (L : List (List Int)) (i : Nat) : divsTo L (i + 1) = divsTo L i ++ L.map (List.cons (i : Int)) := by
  simp [divsTo, List.range_succ, List.flatMap_append]
theorem divsTo_length (L : List (List Int)) (i : Nat) : (divsTo L i).length = i * L.length := by
  induction i with
  | zero => simp [divsTo]
  | succ i ih => rw [divsTo_succ, List.length_append, ih, List.length_map, Nat.add_mul, Nat.one_mul]
theorem divs_length (n m : Nat) : (divs n m).length = n ^ m := by
  induction m with
  | zero => rfl
  | succ m ih => rw [divs, divsTo_length, ih, Nat.pow_succ, Nat.mul_comm]
theorem divs_mem {n m : Nat} {l : List Int} (h : l ∈ divs n m) : l.length = m := by
  induction m generalizing l with
  | zero => simp [divs] at h; subst h; rfl
  | succ m ih =>
    simp only [divs, divsTo, List.mem_flatMap, List.mem_map] at h
    obtain ⟨j, _, x, hx, rfl⟩ := h
    simp [ih hx]
theorem dig_head {n : Nat} (hn : 0 < n) (m : Nat) : ∀ (i t : Nat), i < n → t < n ^ m → dig n (m + 1) (i * n ^ m + t) = i :: dig n m t := by
  induction m with
  | zero =>
    intro i t hi ht
    obtain rfl : t = 0 := by simpa using ht
    simp [dig, Nat.mod_eq_of_lt hi]
  | succ m ih =>
    intro i t hi ht
    have e1 : (i * n ^ (m + 1) + t) / n = i * n ^ m + t / n := by
      rw [Nat.pow_succ, ← Nat.mul_assoc, Nat.mul_comm _ n, Nat.mul_add_div hn]
    have e2 : (i * n ^ (m + 1) + t) % n = t % n := by
      rw [Nat.pow_succ, ← Nat.mul_assoc, Nat.mul_comm _ n, Nat.mul_add_mod]
    have h3 : t / n < n ^ m := by rw [Nat.div_lt_iff_lt_mul hn, ← Nat.pow_succ]; exact ht
    rw [show dig n (m + 1 + 1) (i * n ^ (m + 1) + t) = dig n (m + 1) ((i * n ^ (m + 1) + t) / n) ++ [(i * n ^ (m + 1) + t) % n] from rfl, e1, e2, ih i (t / n) hi h3]
    rfl
theorem divs_eq {n : Nat} (hn : 0 < n) (m : Nat) : divs n m = (List.range (n ^ m)).map (dz n m) := by
  induction m with
  | zero => rfl
  | succ m ih =>
    have key : ∀ i, i ≤ n → divsTo (divs n m) i = (List.range (i * n ^ m)).map (dz n (m + 1)) := by
      intro i
      induction i with
      | zero => intro _; simp [divsTo]
      | succ i ih2 =>
        intro hi
        rw [divsTo_succ, ih2 (by omega), Nat.add_mul, Nat.one_mul, List.range_add, List.map_append, ih, List.map_map, List.map_map]
        congr 1
        apply List.map_congr_left
        intro t ht
        show _ = dz n (m + 1) (i * n ^ m + t)
        unfold dz
        rw [dig_head hn m i t (by omega) (List.mem_range.1 ht)]
        rfl
    rw [divs, key n (Nat.le_refl _), Nat.pow_succ, Nat.mul_comm]
theorem divs_small {n m : Nat} (hn : n ≤ 4) (hm : m ≤ 7) : n ^ m ≤ 16384 :=
  Nat.le_trans (Nat.pow_le_pow_left hn m) (Nat.le_trans (Nat.pow_le_pow_right (by omega) hm) (by decide))

/-- Slices of nil are empty. -/
def NoneZ (vs : List Value) : Prop := ∀ v ∈ vs, ∀ n c, v = .slice none n c → n = 0 ∧ c = 0
theorem NoneZ.snoc {vs : List Value} {A : Addr} {n c : Nat} (h : NoneZ vs) : NoneZ (vs ++ [.slice (some A) n c]) := by
  intro v hv n' c' he
  rcases List.mem_append.1 hv with hv | hv
  · exact h v hv n' c' he
  · rw [List.mem_singleton.1 hv] at he; cases he

/-- What Divisions leaves. -/
def DivPost (L : List (List Int)) (w : World) (e : Ending) (w' : World) : Prop :=
  ∃ A c vs, e = .returned (.slice A L.length c) ∧ w'.ownsRow w.heap.size 23 1 (.slice A L.length c) L.length vs ∧ Rows w' 0 vs L ∧ NoneZ vs ∧ Below w.heap.size w w'

set_option maxRecDepth 100000 in
set_option maxHeartbeats 1600000 in
theorem divisions_any (n : Nat) (hn : 1 ≤ n ∧ n ≤ 4) (m : Nat) : ∀ (w : World), m ≤ 7 →
    Calls Try.prog 55 #[.int .i64 n, .int .i64 m] w (DivPost (divs n m) w) := by
  induction m with
  | zero =>
    intro w _
    go_enter Try.func55, Try.ntmps55
    go_wp2_with fail
    go_ret
    refine ⟨_, 1, [.slice none 0 0], rfl, own_new (w := w) 23 #[.slice none 0 0] (show 1 ≤ maxLen by decide), Rows.one_ ⟨none, 0, rfl, Nat.le_refl _, by omega, (fun j u h => by simp at h), fun ad h => by cases h⟩, (fun v hv n c he => by rw [List.mem_singleton.1 hv] at he; injection he with _ h1 h2; exact ⟨h1.symm, h2.symm⟩), (Below.refl _ _).alloc (Nat.le_refl _) _⟩
  | succ m ih =>
    intro w hm
    have IH := Lib.hid ih
    have hps := divs_small hn.2 (show m ≤ 7 by omega)
    rw [← divs_length] at hps
    have hmem := fun l => @divs_mem n m l
    obtain ⟨L, hL⟩ : ∃ L, L = divs n m := ⟨_, rfl⟩
    have hpos : 0 < L.length := by rw [hL, divs_length]; exact Nat.pow_pos (by omega)
    rw [show divs n (m + 1) = divsTo (divs n m) n from rfl, ← hL]
    rw [← hL] at hps hmem
    have HL := Lib.hid (And.intro hL hmem)
    clear ih hL hmem
    have hne : (((m + 1 : Nat) : Int) == 0) = false := by rw [beq_eq_false_iff_ne]; omega
    have hm1 : ((m + 1 : Nat) : Int) - 1 = (m : Int) := by omega
    obtain ⟨M, hM⟩ : ∃ M : Nat, M = m + 1 := ⟨_, rfl⟩
    rw [← hM] at hne hm1 ⊢
    have HM := Lib.hid hM
    have hM7 : M ≤ 7 := by omega
    clear hM
    go_enter Try.func55, Try.ntmps55
    go_wp2_with fail
    go_loopw [5, 13] (fun ov iv wr => ∃ (i : Nat) (B : Option Addr) (q bc : Nat) (vs : List Value), i ≤ n ∧ iv = .int .i64 i ∧ ov = .slice B q bc ∧ q = (divsTo L i).length ∧ wr.ownsRow w.heap.size 23 1 (.slice B q bc) q vs ∧ Rows wr 0 vs (divsTo L i) ∧ Below w.heap.size w wr ∧ NoneZ vs) (fun _ iv _ => n - (intOf iv).toNat)
    case atStart => exact ⟨0, none, 0, 0, [], Nat.zero_le _, rfl, rfl, rfl, World.ownsRow_nil _ _ _ _, Rows.nil, Below.refl _ _, fun v hv => by cases hv⟩
    case round =>
      obtain ⟨i, B, q, bc, vs, hi, rfl, rfl, hq, hown, hrows, hbl, hnz⟩ := hrel
      have HNZ := Lib.hid hnz
      clear hnz
      obtain ⟨wo, rfl⟩ : ∃ wo : World, wo = wr := ⟨_, rfl⟩
      have HR := Lib.hid (And.intro hown (And.intro hrows (And.intro hbl hq)))
      have hwsz := hbl.size
      clear hown hrows hbl hq
      by_cases hlt : i < n
      · go_wp2_with fail
        refine (IH.out _ (by omega)).mono ?_
        rw [← HL.out.1]
        rintro e w4 ⟨A4, c4, vs4, rfl, hown4, hrows4, hnz4, hbl4⟩
        have HNZ4 := Lib.hid hnz4
        clear hnz4
        obtain ⟨g4, rfl, hg4, hg4b⟩ := own_some hown4 hpos
        obtain ⟨ql, hql⟩ : ∃ ql, ql = L.length := ⟨_, rfl⟩
        have hps2 : ql ≤ 16384 := by rw [hql]; exact hps
        have hpos2 : 0 < ql := by rw [hql]; exact hpos
        have hat4 : At w4 (some ⟨g4, 0, none⟩) vs4 := At.of_own hown4
        have hw4 := hbl4.size
        have hsep : ∀ ad, B = some ad → ad.block ≠ g4 := by
          intro ad had
          have := (HR.out.1.lt ad.block (by rw [had]; rfl)).2
          omega
        have H4 := Lib.hid (And.intro hat4 (And.intro hrows4 (And.intro (own_below HR.out.1 hbl4) (And.intro (HR.out.2.1.below hbl4) (And.intro (HR.out.2.2.1.trans (hbl4.mono hwsz)) (And.intro hsep hql))))))
        rw [← hql]
        clear hown4 hrows4 hbl4 hat4 hsep hql
        go_wp2_with fail
        go_loopw [5, 21] (fun ov jv wr => ∃ (j : Nat) (B : Option Addr) (q bc : Nat) (vs : List Value), j ≤ ql ∧ jv = .int .i64 j ∧ ov = .slice B q bc ∧ q = (divsTo L i).length + j ∧ wr.ownsRow w.heap.size 23 1 (.slice B q bc) q vs ∧ Rows wr 0 vs (divsTo L i ++ (L.take j).map (List.cons (i : Int))) ∧ Below w.heap.size w wr ∧ At wr (some ⟨g4, 0, none⟩) vs4 ∧ Rows wr 0 vs4 L ∧ (∀ ad, B = some ad → ad.block ≠ g4) ∧ NoneZ vs) (fun _ jv _ => ql - (intOf jv).toNat)
        case atStart => exact ⟨0, B, q, bc, vs, Nat.zero_le _, rfl, rfl, by rw [HR.out.2.2.2]; rfl, H4.out.2.2.1, by simpa using H4.out.2.2.2.1, H4.out.2.2.2.2.1, H4.out.1, H4.out.2.1, H4.out.2.2.2.2.2.1, HNZ.out⟩
        case round =>
          obtain ⟨j, B, q, bc, vs, hj, rfl, rfl, hq, hown, hrows, hbl, hat, hrows4, hsep, hnz⟩ := hrel
          have HNZ5 := Lib.hid hnz
          clear hnz
          obtain ⟨wp, rfl⟩ : ∃ wp : World, wp = wr := ⟨_, rfl⟩
          by_cases hlj : j < ql
          · obtain ⟨os, hos⟩ : ∃ os, L[j]? = some os := ⟨_, List.getElem?_eq_getElem (by rw [← H4.out.2.2.2.2.2.2]; exact hlj)⟩
            have hosl := HL.out.2 os (List.mem_of_getElem? hos)
            obtain ⟨v, hv, A', c', rfl, hc1, hc2, hI, _⟩ := hrows4.2 j os hos
            rw [hosl] at hv hc1
            obtain ⟨ad, hadd, hcell⟩ := hat j _ hv
            injection hadd with hadd
            subst hadd
            have hcell' : wp.cell? ⟨g4, j, none⟩ = some (.slice A' m c') := by
              have e : (⟨g4, 0, none⟩ : Addr).add j = ⟨g4, j, none⟩ := by cases j <;> simp [Addr.add]
              rwa [e] at hcell
            have hA0 : A' = none → m = 0 ∧ c' = 0 := fun h => HNZ4.out _ (List.mem_of_getElem? hv) m c' (by rw [h])
            have l1 : (j : Int) < (ql : Int) := by omega
            have hq2 : q ≤ 90000 := by
              rw [hq, divsTo_length]
              have : i * L.length ≤ 4 * 16384 := Nat.mul_le_mul (by omega) hps
              omega
            have HS := Lib.hid (And.intro hown (And.intro hrows (And.intro hbl (And.intro hat (And.intro hrows4 (And.intro hsep (And.intro hI (And.intro hos (And.intro hosl hq)))))))))
            have hwp := hbl.size
            clear hown hrows hbl hat hrows4 hsep hI hos hosl hq hv hcell
            go_wp2_with (at_builtin; refine appN sty_int rfl _ _ rfl wp.heap.size (some ⟨wp.heap.size, 0, none⟩) 1 1 [.int .i64 (i : Int)] rfl ?d1 A' m c' (os.map (Value.int .i64)) hA0 ?d2 ?d3 ?d4 rfl (by omega) (by go_size) ?_)
            case d1 => exact own_new (w := wp) 3 #[.int .i64 (i : Int)] (show 1 ≤ maxLen by decide)
            case d2 => rw [List.length_map, HS.out.2.2.2.2.2.2.2.2.1, Nat.mul_one]
            case d3 => exact HS.out.2.2.2.2.2.2.1.below ((Below.refl _ _).alloc (Nat.le_refl _) _)
            case d4 => exact ints_one _
            intro A6 k6 w6 hown6 _ hbl6 hk61 hk62
            have hown6' : w6.ownsRow wp.heap.size 3 1 (.slice A6 (1 + m) k6) (1 + m) ((((i : Int)) :: os).map (Value.int .i64)) := hown6
            have hb6 : Below wp.heap.size wp w6 := ((Below.refl wp.heap.size wp).alloc (Nat.le_refl _) _).trans hbl6
            have hrow6 := Row1.of_own hown6' 0
            have hw6 := hb6.size
            have hown26 := own_below HS.out.1 hb6
            obtain ⟨ad6, hA6, _⟩ := own_some hown6' (by omega)
            subst hA6
            have hsz6 : g4 < w6.heap.size := Nat.lt_of_lt_of_le (lt_of_cell hcell') hw6
            have H6 := Lib.hid (And.intro hrow6 (And.intro hown26 (And.intro (HS.out.2.1.below hb6) (And.intro (HS.out.2.2.1.trans (hb6.mono hwp)) (And.intro (HS.out.2.2.2.1.below hb6) (HS.out.2.2.2.2.1.below hb6))))))
            clear hown6 hown6' hbl6 hb6 hrow6 hown26
            go_wp2_with (at_builtin; refine app1w sty_intss rfl _ _ rfl w.heap.size B q bc _ (.slice (some ⟨ad6, 0, none⟩) (1 + m) k6) (by simp [Value.oneCell']) rfl H6.out.2.1 w6.heap.size rfl rfl (by omega) (by omega) ?_)
            intro A8 k8 w8 hown8 hg8 hbl8 hk81 hk82 hst8
            have hB : ∀ ad, B = some ad → ad.block ≠ g4 := HS.out.2.2.2.2.2.1
            have hne4 : some g4 ≠ (Value.slice B q bc).ownBlock := by
              cases B with
              | none => intro h; cases h
              | some ad => intro h; injection h with h; exact hB ad rfl h.symm
            have hrows8 : Rows w8 0 (vs ++ [.slice (some ⟨ad6, 0, none⟩) (1 + m) k6]) (divsTo L i ++ (L.take (j + 1)).map (List.cons (i : Int))) := by
              rw [List.take_add_one, HS.out.2.2.2.2.2.2.2.1]
              simp only [Option.toList, List.map_append, List.map_cons, List.map_nil, ← List.append_assoc]
              have hl6 : (1 + m) = (((i : Int)) :: os).length := by simp [HS.out.2.2.2.2.2.2.2.2.1]; omega
              exact (H6.out.2.2.1.grown H6.out.2.1 (Nat.zero_le _) hg8).append (Rows.one_ (H6.out.1.grown H6.out.2.1 (Nat.zero_le _) hg8))
            have hat8 : At w8 (some ⟨g4, 0, none⟩) vs4 := by
              intro t u hu
              obtain ⟨ad, h1, h2⟩ := H6.out.2.2.2.2.1 t u hu
              injection h1 with h1
              subst h1
              exact ⟨_, rfl, hg8.cell h2 (by rw [add_block]; exact hne4)⟩
            have hrows48 := H6.out.2.2.2.2.2.grown H6.out.2.1 (Nat.zero_le _) hg8
            have hsep8 : ∀ ad, A8 = some ad → ad.block ≠ g4 := by
              intro ad had
              rcases hst8 ad (q + 1) k8 (by rw [had]) with ⟨n0, k0, h⟩ | h
              · injection h with h; exact hB ad h
              · omega
            have H8 := Lib.hid (And.intro hown8 (And.intro hrows8 (And.intro (H6.out.2.2.2.1.trans hbl8) (And.intro hat8 (And.intro hrows48 hsep8)))))
            clear hown8 hrows8 hbl8 hat8 hrows48 hsep8 hst8 hg8 hne4 hB
            go_wp2_with fail
            go_roundw
            case rel => exact ⟨j + 1, A8, q + 1, k8, _, by omega, by go_num, by go_num, by rw [HS.out.2.2.2.2.2.2.2.2.2]; omega, H8.out.1, H8.out.2.1, H8.out.2.2.1, H8.out.2.2.2.1, H8.out.2.2.2.2.1, H8.out.2.2.2.2.2, HNZ5.out.snoc⟩
            case measure => simp [intOf]; omega
          · obtain rfl : j = ql := by omega
            have hLT : L.take j = L := List.take_of_length_le (by rw [← H4.out.2.2.2.2.2.2]; exact Nat.le_refl _)
            rw [hLT, ← divsTo_succ] at hrows
            have HS := Lib.hid (And.intro hown (And.intro hrows (And.intro hbl (show q = (divsTo L (i + 1)).length by rw [hq, divsTo_succ, List.length_append, List.length_map, ← H4.out.2.2.2.2.2.2]))))
            clear hown hrows hbl hat hrows4 hsep hq hLT
            go_wp2_with fail
            go_roundw
            case rel => exact ⟨i + 1, B, q, bc, vs, by omega, by go_num, rfl, HS.out.2.2.2, HS.out.1, HS.out.2.1, HS.out.2.2.1, HNZ5.out⟩
            case measure => simp [intOf]; omega
      · obtain rfl : i = n := by omega
        go_wp2_with fail
        go_ret
        have hh := HR.out.2.2.2
        subst hh
        exact ⟨B, bc, vs, rfl, HR.out.1, HR.out.2.1, HNZ.out, HR.out.2.2.1⟩
end Go.Proofs.Ytkljambjdiblkaa
