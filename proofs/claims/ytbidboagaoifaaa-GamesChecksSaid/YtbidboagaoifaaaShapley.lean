/- Contract: Shapley of package games. -/
import Derived.Test.YtbidboagaoifaaaOrders
import Derived.Test.YtbidboagaoifaaaFrac2
import Derived.Test.YtbidboagaoifaaaFairLaw
namespace Go.Proofs.Ytbidboagaoifaaa
open Go.RowKit

/-- The cells of a row of fractions. -/
def fcells (qs : List Rat) : List Value := qs.flatMap fun q => [.int .i64 q.num, .int .i64 (q.den : Int)]
theorem fcells_snoc (qs : List Rat) (q : Rat) : fcells (qs ++ [q]) = fcells qs ++ [.int .i64 q.num, .int .i64 (q.den : Int)] := by simp [fcells]

theorem plr_np {xs : List Int} (h : valC xs = true) : xs.length = 2 ∧ plr xs = 1 ∨ xs.length = 4 ∧ plr xs = 2 ∨ xs.length = 8 ∧ plr xs = 3 ∨ xs.length = 16 ∧ plr xs = 4 := by
  have h1 := (valC_iff.1 h).1
  unfold plr
  rw [if_pos h]
  rcases h1 with h | h | h | h <;> simp [h]

set_option maxHeartbeats 1600000 in
theorem shapley_bad (A : Option Addr) (n cap : Nat) (xs : List Int) (w : World) (hl : xs.length = n) (hm : n ≤ 9223372036854775807) (h : Ints w A xs) (hv : valC xs = false) :
    Calls Try.prog 18 #[.slice A n cap] w fun e w' => e = .returned (.tuple #[.slice none 0 0, .int .i64 2]) ∧ Below w.heap.size w w' := by
  have hI : Ints (w.alloc (.cells #[.slice A n cap] 69)) A xs := h.below ((Below.refl _ _).alloc (by go_size) _)
  have HI := Lib.hid hI
  have HL := Lib.hid hl
  have HV := Lib.hid hv
  clear hI hl hv h
  go_enter Try.func18, Try.ntmps18
  go_wp2_with fail
  refine (valid_any A n cap xs _ HL.out hm HI.out).mono ?_
  rintro e w1 ⟨rfl, hb⟩
  rw [HV.out]
  have HB := Lib.hid hb
  clear hb
  go_wp2
  go_ret2
  exact ⟨rfl, ((Below.refl _ _).alloc (by go_size) _).trans (HB.out.mono (by go_size))⟩

set_option maxHeartbeats 1600000 in
theorem shapley_ok (A : Option Addr) (N cap : Nat) (xs : List Int) (w : World) (hl : xs.length = N) (h : Ints w A xs) (hv : valC xs = true) :
    Calls Try.prog 18 #[.slice A N cap] w fun e w' => ∃ A' c', e = .returned (.tuple #[.slice A' (plr xs) c', .int .i64 0]) ∧ w'.ownsRow w.heap.size 31 2 (.slice A' (plr xs) c') (plr xs) (fcells (shapL xs (plr xs))) ∧ Below w.heap.size w w' := by
  have hnp := plr_np hv
  rw [hl] at hnp
  obtain ⟨n, hn⟩ : ∃ n, n = plr xs := ⟨_, rfl⟩
  rw [← hn] at hnp ⊢
  obtain ⟨ac, rfl, hac, hc⟩ := h.some_ (by omega)
  have hI : Ints (w.alloc (.cells #[.slice (some ac) N cap] 69)) (some ac) xs := h.below ((Below.refl _ _).alloc (by go_size) _)
  have hn4 : n ≤ 4 := by omega
  have hn0 : 1 ≤ n := by omega
  have hNl : N ≤ 16 := by omega
  have hmk := make_ints n (by omega)
  have hN : N = 2 ^ n := by rcases hnp with ⟨h1, h2⟩ | ⟨h1, h2⟩ | ⟨h1, h2⟩ | ⟨h1, h2⟩ <;> rw [h1, h2] <;> rfl
  have hcb := (valC_iff.1 hv).2.2
  have hel := ext_len hn4
  have H := Lib.hid (And.intro hI (And.intro hl (And.intro hv (And.intro hnp (And.intro hN (And.intro hcb (And.intro hc (And.intro hac hel))))))))
  clear hI hl hv hnp hN hcb hn h hc hac hel
  go_enter Try.func18, Try.ntmps18
  go_wp2_with fail
  refine (valid_any (some ac) N cap xs _ H.out.2.1 (by omega) H.out.1).mono ?_
  rintro e w1 ⟨rfl, hb⟩
  rw [H.out.2.2.1]
  have hbk : Blk w1 w.heap.size 69 #[.slice (some ac) N cap] := (Blk.new _ _ _ rfl).below hb (by go_size)
  obtain ⟨k0, k1⟩ := hbk.at1
  have hw1 : Below w.heap.size w w1 := ((Below.refl _ _).alloc (by go_size) _).trans (hb.mono (by go_size))
  have hz1 := hbk.lt
  have H1 := Lib.hid (And.intro hbk hw1)
  clear hb hbk hw1
  go_wp2_with fail
  refine (players_any _ _ n _ _ H.out.2.2.2.1).mono ?_
  rintro e w' ⟨rfl, rfl⟩
  have B3 : ∀ o1 o2 o3, Below w1.heap.size w1 (((w1.alloc o1).alloc o2).alloc o3) := fun o1 o2 o3 => (((Below.refl _ _).alloc (by go_size) _).alloc (by go_size) _).alloc (by go_size) _
  have k2 : ∀ o1 o2 o3, (((w1.alloc o1).alloc o2).alloc o3).cell? ⟨w.heap.size, 0, none⟩ = some (.slice (some ac) N cap) := fun o1 o2 o3 => ((B3 o1 o2 o3).cell hz1).trans k0
  have HB3 := Lib.hid B3
  clear B3
  go_wp2_with fail
  clear k2
  have B3 := HB3.out
  obtain ⟨hI, hl, hv, hnp, hN, hcb, hc, hac, hel⟩ := H.out
  obtain ⟨hbk, hw1⟩ := H1.out
  have hacw := Nat.lt_of_lt_of_le hac hw1.size
  refine (orders_any ac N cap n (w1.heap.size + 1 + 1) w.heap.size (w1.heap.size + 1) w1.heap.size xs (List.replicate n 0) _ hn4 hn0 hN hl (by simp) hcb (by simp) (by omega)
    (fun i x hi => ((B3 _ _ _).cell (lt_of_cell ((hw1.cell (lt_of_cell (hc i x hi))).trans (hc i x hi)))).trans ((hw1.cell (lt_of_cell (hc i x hi))).trans (hc i x hi))) (by simp; omega)
    (Blk.new _ _ _ (by simp)) (hbk.below (B3 _ _ _) hz1) ((Blk.new _ _ _ (by simp)).alloc _) (((Blk.new _ _ _ rfl).alloc _).alloc _)
    (by omega) (by omega) (by omega) (by omega) (by omega) (by omega) (by omega)).mono ?_
  rintro e w2 ⟨rfl, hbc2, hbS2, hbd2, hK2⟩
  have hb2 : Below w1.heap.size w1 w2 := by
    have h := ((Kept.of_below (B3 (.cells (arr (List.replicate n 0)) 3) (.cells #[.slice (some ⟨w1.heap.size, 0, none⟩) n n] 22) (.cells #[.int .i64 0] 3)) []).trans (hK2.mono (by go_size) (by intro x hx; simp only [List.mem_cons, List.not_mem_nil, or_false] at hx; exact .inr (by omega))))
    exact h.below
  have hbs2 : Blk w2 (w1.heap.size + 1) 22 #[.slice (some ⟨w1.heap.size, 0, none⟩) n n] := ((Blk.new _ _ _ (by simp)).alloc _).kept hK2 (by simp) (by simp)
  have hW2 : Below w.heap.size w w2 := hw1.trans (hb2.mono hw1.size)
  have hzz := hbS2.lt
  have hbs2' := hbs2.lt
  have hbc2' := hbc2.lt
  obtain ⟨u0, u1⟩ := hbs2.at1
  have H2 := Lib.hid (And.intro hbc2 (And.intro hbS2 (And.intro hbd2 (And.intro hbs2 hW2))))
  have hwz : w.heap.size ≤ w2.heap.size := hW2.size
  clear hbc2 hbS2 hbd2 hK2 hb2 hbs2 hW2 B3 hI hl hv hnp hN hcb hc hac hel hbk hw1 HB3 k0 k1
  obtain ⟨cn, hcn⟩ : ∃ cn, cn = (ext n n []).length := ⟨_, rfl⟩
  rw [← hcn] at H2
  have hcn2 := H.out.2.2.2.2.2.2.2.2
  rw [← hcn] at hcn2
  have HCN := Lib.hid hcn
  clear hcn
  go_wp2
  go_loopw [7, 22] (fun ov iv wr => ∃ (k : Nat) (A : Option Addr) (cp : Nat), k ≤ n ∧ iv = .int .i64 k ∧ ov = .slice A k cp ∧ wr.ownsRow w2.heap.size 31 2 (.slice A k cp) k (fcells ((shapL xs n).take k)) ∧ Below w2.heap.size w2 wr) (fun _ iv _ => n - (intOf iv).toNat)
  case atStart => exact ⟨0, none, 0, Nat.zero_le _, rfl, rfl, by simpa [fcells] using World.ownsRow_nil _ _ _ _, Below.refl _ _⟩
  case round =>
    obtain ⟨k, A, cp, hkn, rfl, rfl, hown, hbl⟩ := hrel
    obtain ⟨hbc2, hbS2, hbd2, hbs2, hW2⟩ := H2.out
    by_cases hlt : k < n
    · have hsl : (sumsL xs n).length = n := by unfold sumsL; rw [addAll_length]; simp
      obtain ⟨x, hx⟩ : ∃ x, (sumsL xs n)[k]? = some x := ⟨_, List.getElem?_eq_getElem (by rw [hsl]; exact hlt)⟩
      have hxb := hbd2 x (List.mem_of_getElem? hx)
      have c1 : wr.cell? ⟨w1.heap.size, k, none⟩ = some (.int .i64 x) := by
        rw [(hbS2.below hbl hbS2.lt).cell, arr_get]
        show ((sumsL xs n)[k]?).map _ = _
        rw [hx]; rfl
      obtain ⟨c2, _⟩ := (hbc2.below hbl hbc2.lt).at1
      have hq : (shapL xs n)[k]? = some (Rat.divInt x cn) := by unfold shapL; rw [List.getElem?_map, hx, HCN.out]; rfl
      have HNEW : Hid (fcells ((shapL xs n).take (k + 1)) = fcells ((shapL xs n).take k) ++ [.int .i64 (Rat.divInt x cn).num, .int .i64 ((Rat.divInt x cn).den : Int)]) := Lib.hid (by
        rw [List.take_add_one, hq]; exact fcells_snoc _ _)
      have HR := Lib.hid (And.intro hown hbl)
      clear hown hbl hx hq hsl hbc2 hbS2 hbd2 hbs2 hW2
      go_wp2_with fail
      refine (gfrac_any x cn _ (by omega) (by omega) (by omega) (by omega)).mono ?_
      rintro e w3 ⟨rfl, hb3⟩
      generalize Rat.divInt x (cn : Int) = q at HNEW ⊢
      have hown3 := own_below HR.out.1 hb3
      have hbl3 : Below w2.heap.size w2 w3 := HR.out.2.trans (hb3.mono HR.out.2.size)
      have HR3 := Lib.hid (And.intro hown3 hbl3)
      have hw3 : w2.heap.size ≤ w3.heap.size := hbl3.size
      clear hown3 hbl3 hb3
      unfold fr
      go_wp2_with (at_builtin; refine app1 sty_frac rfl _ _ rfl w2.heap.size A k cp _ #[.int .i64 q.num, .int .i64 (q.den : Int)] rfl (by simp [Value.oneCell']) rfl HR3.out.1 rfl (by omega) hw3 ?_)
      intro A4 k4 w4 hown4 _ hbl4 hk41 hk42
      rw [← HNEW.out] at hown4
      have HR4 := Lib.hid (And.intro hown4 (HR3.out.2.trans hbl4))
      clear hown4 hbl4
      go_wp2
      go_roundw
      case rel => exact ⟨k + 1, A4, k4, by omega, by go_num, rfl, HR4.out.1, HR4.out.2⟩
      case measure => simp [intOf]; omega
    · obtain rfl : k = n := by omega
      have HR := Lib.hid (And.intro hown (hW2.trans (hbl.mono hwz)))
      clear hown hbl hbc2 hbS2 hbd2 hbs2 hW2
      go_wp2
      go_ret2
      refine ⟨A, cp, rfl, ?_, HR.out.2⟩
      have h := own_mono HR.out.1 hwz
      rwa [List.take_of_length_le (by unfold shapL sumsL; rw [List.length_map, addAll_length]; simp)] at h

/-- What Shapley returns, valid or not. -/
def ShR (xs : List Int) (base : Nat) (w : World) (A : Option Addr) (k c : Nat) (ec : Int) : Prop :=
  (valC xs = true ∧ ec = 0 ∧ k = plr xs ∧ w.ownsRow base 31 2 (.slice A k c) k (fcells (shapL xs (plr xs)))) ∨ (valC xs = false ∧ ec = 2 ∧ k = 0 ∧ A = none ∧ c = 0)
theorem shapley_any (A : Option Addr) (n cap : Nat) (xs : List Int) (w : World) (hl : xs.length = n) (hm : n ≤ 9223372036854775807) (h : Ints w A xs) :
    Calls Try.prog 18 #[.slice A n cap] w fun e w' => ∃ A' k c' ec, e = .returned (.tuple #[.slice A' k c', .int .i64 ec]) ∧ ShR xs w.heap.size w' A' k c' ec ∧ Below w.heap.size w w' := by
  cases hv : valC xs
  · exact (shapley_bad A n cap xs w hl hm h hv).mono fun _ _ hh => ⟨none, 0, 0, 2, hh.1, .inr ⟨hv, rfl, rfl, rfl, rfl⟩, hh.2⟩
  · exact (shapley_ok A n cap xs w hl h hv).mono fun _ _ ⟨A', c', h1, h2, h3⟩ => ⟨A', plr xs, c', 0, h1, .inl ⟨hv, rfl, rfl, h2⟩, h3⟩
end Go.Proofs.Ytbidboagaoifaaa
