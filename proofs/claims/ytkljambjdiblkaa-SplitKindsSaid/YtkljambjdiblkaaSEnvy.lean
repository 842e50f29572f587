/- Contracts: envies and envy of package split. -/
import Derived.Test.YtkljambjdiblkaaSEnvyLaw
import Derived.Test.YtkljambjdiblkaaSPairs
namespace Go.Proofs.Ytkljambjdiblkaa
open Go.RowKit

set_option maxHeartbeats 800000 in
theorem senvies_any (A : Option Addr) (n cap : Nat) (D : Option Addr) (m capd i j : Nat) (V : List (List Int)) (d : List Int) (w : World) (hl : V.length = n) (hn : n ≤ 1000) (hi : i < n) (hld : d.length = m) (hm : m ≤ 1000)
    (hr : (rowV V i).length = m) (hrb : ∀ x ∈ rowV V i, 0 ≤ x ∧ x ≤ 100) (hV : Mat w A V) (hD : Ints w D d) :
    Calls Try.prog 95 #[.slice A n cap, .slice D m capd, .int .i64 i, .int .i64 j] w fun e w' => e = .returned (.bool (envB V d i j)) ∧ w = w' := by
  have H := Lib.hid (And.intro hl (And.intro hld (And.intro hr (And.intro hrb (And.intro hV hD)))))
  clear hl hld hr hrb hV hD
  go_enter Try.func95, Try.ntmps95
  go_wp2_with fail
  refine (worth_any A n cap D m capd i (j : Int) V d _ H.out.1 hn hi H.out.2.1 hm H.out.2.2.1 H.out.2.2.2.1 H.out.2.2.2.2.1 H.out.2.2.2.2.2).mono ?_
  rintro e w' ⟨rfl, rfl⟩
  obtain ⟨a, ha⟩ : ∃ a, a = wor V d i (j : Int) := ⟨_, rfl⟩
  rw [← ha]
  have HA := Lib.hid ha
  clear ha
  go_wp2_with fail
  refine (worth_any A n cap D m capd i (i : Int) V d _ H.out.1 hn hi H.out.2.1 hm H.out.2.2.1 H.out.2.2.2.1 H.out.2.2.2.2.1 H.out.2.2.2.2.2).mono ?_
  rintro e w' ⟨rfl, rfl⟩
  obtain ⟨b, hb⟩ : ∃ b, b = wor V d i (i : Int) := ⟨_, rfl⟩
  rw [← hb]
  have HB : Hid (decide (b < a) = envB V d i j) := Lib.hid (by unfold envB; rw [HA.out, hb])
  clear hb
  go_wp2_with fail
  go_ret
  exact ⟨ret_bool HB.out, rfl⟩

/-- What envy leaves. -/
def SEnvyPost (ps : List (Nat × Nat)) (w : World) (e : Ending) (w' : World) : Prop :=
  ∃ A c, e = .returned (.slice A ps.length c) ∧ ps.length ≤ 1000 ∧ Pairs w' A ps ∧ Below w.heap.size w w'

set_option maxRecDepth 100000 in
set_option maxHeartbeats 1600000 in
theorem senvy_any (A : Option Addr) (n cap : Nat) (D : Option Addr) (m capd : Nat) (V : List (List Int)) (d : List Int) (w : World) (hl : V.length = n) (hn : n ≤ 10) (hld : d.length = m) (hm : m ≤ 1000)
    (hr : ∀ i, i < n → (rowV V i).length = m ∧ ∀ x ∈ rowV V i, 0 ≤ x ∧ x ≤ 100) (hV : Mat w A V) (hD : Ints w D d) :
    Calls Try.prog 64 #[.slice A n cap, .slice D m capd] w (SEnvyPost (envL V d n) w) := by
  have H := Lib.hid (And.intro hl (And.intro hld (And.intro hr (And.intro hV hD))))
  clear hl hld hr hV hD
  go_enter Try.func64, Try.ntmps64
  go_wp2_with fail
  go_loopw [5, 10] (fun ov iv wr => ∃ (i : Nat) (B : Option Addr) (q bc : Nat), i ≤ n ∧ iv = .int .i64 i ∧ ov = .slice B q bc ∧ q = (envTo V d n i).length ∧ wr.ownsRow w.heap.size 38 2 (.slice B q bc) q (pcells (envTo V d n i)) ∧ Below w.heap.size w wr) (fun _ iv _ => n - (intOf iv).toNat)
  case atStart => exact ⟨0, none, 0, 0, Nat.zero_le _, rfl, rfl, rfl, World.ownsRow_nil _ _ _ _, Below.refl _ _⟩
  case round =>
    obtain ⟨i, B, q, bc, hi, rfl, rfl, hq, hown, hbl⟩ := hrel
    obtain ⟨wo, rfl⟩ : ∃ wo : World, wo = wr := ⟨_, rfl⟩
    have HR := Lib.hid (And.intro hq (And.intro hown hbl))
    clear hq hown hbl
    by_cases hlt : i < n
    · have l1 : (i : Int) < (n : Int) := by omega
      go_wp2_with fail
      go_loopw [5, 15] (fun ov jv wr => ∃ (j : Nat) (B : Option Addr) (q bc : Nat), j ≤ n ∧ jv = .int .i64 j ∧ ov = .slice B q bc ∧ q = (envTo V d n i ++ envRow V d i j).length ∧ wr.ownsRow w.heap.size 38 2 (.slice B q bc) q (pcells (envTo V d n i ++ envRow V d i j)) ∧ Below w.heap.size w wr) (fun _ jv _ => n - (intOf jv).toNat)
      case atStart => exact ⟨0, B, q, bc, Nat.zero_le _, rfl, rfl, by rw [HR.out.1]; simp [envRow], by have := HR.out.2.1; simpa [envRow] using this, HR.out.2.2⟩
      case round =>
        obtain ⟨j, B1, q1, bc1, hj, rfl, rfl, hq1, hown1, hbl1⟩ := hrel
        have hq100 : q1 ≤ 200 := by
          rw [hq1, List.length_append]
          have h1 := envTo_length V d n i
          have h2 := envRow_length V d i j
          have h3 : n * i ≤ 10 * 10 := Nat.mul_le_mul (by omega) (by omega)
          omega
        have hwsz := hbl1.size
        have HJ := Lib.hid (And.intro hq1 (And.intro hown1 hbl1))
        clear hq1 hown1 hbl1
        by_cases hlj : j < n
        · have l2 : (j : Int) < (n : Int) := by omega
          go_wp2_with fail
          refine (senvies_any A n cap D m capd i j V d _ H.out.1 (by omega) hlt H.out.2.1 hm (H.out.2.2.1 i hlt).1 (H.out.2.2.1 i hlt).2 (H.out.2.2.2.1.below HJ.out.2.2) (H.out.2.2.2.2.below HJ.out.2.2)).mono ?_
          rintro e w' ⟨rfl, rfl⟩
          have hs := envRow_succ V d i j
          obtain ⟨b, hb⟩ : ∃ b, b = envB V d i j := ⟨_, rfl⟩
          rw [← hb] at hs ⊢
          have HS := Lib.hid hs
          clear hs hb
          cases b
          · go_wp2_with fail
            go_roundw
            case rel =>
              refine ⟨j + 1, B1, q1, bc1, by omega, by go_num, rfl, ?_, ?_, HJ.out.2.2⟩
              · rw [HS.out]; simpa using HJ.out.1
              · rw [HS.out]; simpa using HJ.out.2.1
            case measure => simp [intOf]; omega
          · have HNEW : Hid (pcells (envTo V d n i ++ envRow V d i (j + 1)) = pcells (envTo V d n i ++ envRow V d i j) ++ [.int .i64 (i : Int), .int .i64 (j : Int)] ∧ (envTo V d n i ++ envRow V d i (j + 1)).length = (envTo V d n i ++ envRow V d i j).length + 1) := Lib.hid (by
              rw [HS.out]
              simp only [if_true, ← List.append_assoc, pcells_append]
              exact ⟨rfl, by simp; omega⟩)
            go_wp2_with (at_builtin; refine app1 sty_pair rfl _ _ rfl w.heap.size B1 q1 bc1 _ #[.int .i64 (i : Int), .int .i64 (j : Int)] rfl (by simp [Value.oneCell']) rfl HJ.out.2.1 rfl (by omega) (by omega) ?_)
            intro A4 k4 w4 hown4 _ hbl4 hk41 hk42
            have hown4' : w4.ownsRow w.heap.size 38 2 (.slice A4 (q1 + 1) k4) (q1 + 1) (pcells (envTo V d n i ++ envRow V d i (j + 1))) := by rw [HNEW.out.1]; exact hown4
            have H4 := Lib.hid (And.intro hown4' (HJ.out.2.2.trans hbl4))
            clear hown4 hown4' hbl4
            go_wp2_with fail
            go_roundw
            case rel => exact ⟨j + 1, A4, q1 + 1, k4, by omega, by go_num, by go_num, by rw [HNEW.out.2, HJ.out.1], H4.out.1, H4.out.2⟩
            case measure => simp [intOf]; omega
        · obtain rfl : j = n := by omega
          go_wp2_with fail
          go_roundw
          case rel => exact ⟨i + 1, B1, q1, bc1, by omega, by go_num, rfl, by rw [envTo_succ]; exact HJ.out.1, by rw [envTo_succ]; exact HJ.out.2.1, HJ.out.2.2⟩
          case measure => simp [intOf]; omega
    · obtain rfl : i = n := by omega
      go_wp2_with fail
      go_ret
      refine ⟨B, bc, ?_, ?_, At.of_own HR.out.2.1, HR.out.2.2⟩
      · have h := HR.out.1; unfold envL; rw [← h]; rfl
      · have h1 := envTo_length V d i i
        have h3 : i * i ≤ 10 * 10 := Nat.mul_le_mul (by omega) (by omega)
        unfold envL; omega
end Go.Proofs.Ytkljambjdiblkaa
