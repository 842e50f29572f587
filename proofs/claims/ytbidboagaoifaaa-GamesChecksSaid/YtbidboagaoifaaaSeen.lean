/- A set of ints as a map to bools that the call makes; slices.ContainsFunc with the test of CheckRefute. -/
import Derived.Test.YtbidboagaoifaaaLib
import Derived.Maps.OwnOps
import Derived.Maps.Views
namespace Go.Proofs.Ytbidboagaoifaaa
open Go.RowKit

theorem keyI : Maps.Keyed Try.prog 3 := Maps.int_keyed Try.underlying3
theorem zeroB (w : World) : (zeroValue 4).run Try.prog w = .ok (.bool false) w := by kernel_rfl
/-- Block b is a map that holds true just for these numbers. -/
def SeenM (w : World) (b n : Nat) (S : List Int) : Prop :=
  ∃ D : DataW Unit, w.ownsMap Try.prog 3 (plainElem Try.prog 4) b n D ∧ Maps.IsMap D ∧ ∀ x : Int, D.atKey (.int .i64 x) (.lit (.bool false)) = .lit (.bool (decide (x ∈ S)))
theorem SeenM.made (w : World) : SeenM (w.alloc (.map #[] 0)) w.heap.size 0 [] :=
  ⟨_, World.ownsMap_made w Try.prog 3 _, Maps.isMap_empty, fun x => by simp [DataW.atKey]⟩
theorem SeenM.lt {w : World} {b n : Nat} {S : List Int} (h : SeenM w b n S) : b < w.heap.size := by obtain ⟨D, h, _⟩ := h; exact h.lt
theorem SeenM.kept {w w' : World} {b n : Nat} {S : List Int} (h : SeenM w b n S) (hb : w'.heap[b]? = w.heap[b]?) : SeenM w' b n S := by
  obtain ⟨D, ⟨es, clock, hm, F, hs, hD⟩, h2, h3⟩ := h
  exact ⟨D, ⟨es, clock, hb.trans hm, F, hs, hD⟩, h2, h3⟩
theorem SeenM.below {w w' : World} {b n B : Nat} {S : List Int} (h : SeenM w b n S) (hb : Below B w w') (hlt : b < B) : SeenM w' b n S := h.kept (hb.block b hlt)
theorem wfI {x : Int} (h1 : -9223372036854775808 ≤ x) (h2 : x ≤ 9223372036854775807) : (Lit.int .i64 x).wf = true := WalkArith.wf_i64 (by omega)
theorem SeenM.look {w : World} {b n : Nat} {S : List Int} (h : SeenM w b n S) {x : Int} (h1 : -9223372036854775808 ≤ x) (h2 : x ≤ 9223372036854775807) :
    (Instr.lookup 78 (.map (some b)) (.int .i64 x) false).run Try.prog w = .ok (.bool (decide (x ∈ S))) w := by
  obtain ⟨D, hown, _, hat⟩ := h
  obtain ⟨v, ps, hrun, hv⟩ := hown.lookup keyI Try.underlying78 (zeroB w) (plainElem_bool Try.underlying4 false) (Maps.keyOf_int_mk Try.underlying3 (wfI h1 h2))
  rw [hat x] at hv
  have hvx : v = .bool (decide (x ∈ S)) := by
    simp only [plainElem, Try.underlying4] at hv
    cases v <;> simp at hv
    rw [hv.1]
  rw [hrun, hvx]
theorem SeenM.store {w : World} {b n : Nat} {S : List Int} (h : SeenM w b n S) {x : Int} (h1 : -9223372036854775808 ≤ x) (h2 : x ≤ 9223372036854775807) (hn : n ≤ 1000) :
    ∃ w', (Instr.mapUpdate 78 (.map (some b)) (.int .i64 x) (.bool true)).run Try.prog w = .ok () w' ∧ SeenM w' b (n + 1) (S ++ [x]) ∧ w.grownBy w' (some b) := by
  obtain ⟨D, hown, hm, hat⟩ := h
  obtain ⟨w', hrun, hown', hg⟩ := hown.update keyI Try.underlying78 (by unfold maxLen; omega) (Maps.keyOf_int_mk Try.underlying3 (wfI h1 h2)) (plainElem_bool Try.underlying4 true)
  refine ⟨w', hrun, ⟨_, hown', hm.put _ _, fun y => ?_⟩, hg⟩
  by_cases hy : y = x
  · subst hy
    rw [Maps.atKey_put_same hm (show WideAt.IsKeyLit (.int .i64 y) from trivial)]
    simp
  · rw [Maps.atKey_put_other (by simpa using hy), hat y]
    simp [hy]

theorem cr1_any (x : Int) (w : World) : Calls Try.prog 73 #[.int .i64 x] w fun e w' => e = .returned (.bool (x != 27720)) ∧ w = w' := by
  go_enter Try.func73, Try.ntmps73
  go_wp2_with fail
  go_ret
  exact ⟨rfl, rfl⟩

/-- What IndexFunc leaves. -/
def FnePost (xs : List Int) (w : World) (e : Ending) (w' : World) : Prop := ∃ r : Int, e = .returned (.int .i64 r) ∧ w = w' ∧ -1 ≤ r ∧ decide (0 ≤ r) = !xs.all (fun x => x == 27720)
set_option maxHeartbeats 400000 in
theorem indexF_any (A : Option Addr) (n cap : Nat) (xs : List Int) (w : World) (hl : xs.length = n) (hm : n ≤ 1000) (h : Ints w A xs) :
    Calls Try.prog 87 #[.slice A n cap, .func (.func 73) #[] #[]] w (FnePost xs w) := by
  have hI := fun (hp : 0 < xs.length) => h.some_ hp
  have H := Lib.hid (And.intro hl hI)
  clear hl h hI
  go_enter Try.func87, Try.ntmps87
  go_wp2_with fail
  go_loop [8] (fun i => ∃ k : Nat, k ≤ n ∧ i = .int .i64 k ∧ (xs.take k).all (fun x => x == 27720) = true) (fun i => n - (intOf i).toNat)
  case atStart => exact ⟨0, Nat.zero_le _, rfl, by simp⟩
  case round =>
    obtain ⟨k, hk, rfl, ha⟩ := hrel
    have HA := Lib.hid ha
    clear ha
    by_cases hlt : k < n
    · obtain ⟨hl, hI⟩ := H.out
      obtain ⟨ad, rfl, _, hc⟩ := hI (by omega)
      obtain ⟨x, hx⟩ : ∃ x, xs[k]? = some x := ⟨_, List.getElem?_eq_getElem (by omega)⟩
      have hcell := hc k x hx
      have HX := Lib.hid hx
      clear hl hI hc hx
      go_wp2_with fail
      refine (cr1_any x _).mono ?_
      rintro e w' ⟨rfl, rfl⟩
      by_cases he : x = 27720
      · have hb : (x != 27720) = false := by simp [he]
        have HN : Hid ((xs.take (k + 1)).all (fun x => x == 27720) = true) := Lib.hid (by rw [take_succ' HX.out, List.all_append, HA.out]; simp [he])
        rw [hb]
        clear he hb
        go_wp2_with fail
        go_round
        case rel => exact ⟨k + 1, by omega, by go_num, HN.out⟩
        case measure => simp [intOf]; omega
      · have hb : (x != 27720) = true := by simpa using he
        have HN : Hid (xs.all (fun x => x == 27720) = false) := Lib.hid (by
          rw [List.all_eq_false]
          exact ⟨x, List.mem_of_getElem? HX.out, by simpa using he⟩)
        rw [hb]
        clear he hb
        go_wp2_with fail
        go_ret
        exact ⟨(k : Int), rfl, rfl, by omega, by rw [HN.out, decide_eq_true (by omega)]; rfl⟩
    · have HN : Hid (xs.all (fun x => x == 27720) = true) := Lib.hid (by have h := HA.out; rwa [List.take_of_length_le (by rw [H.out.1]; omega)] at h)
      go_wp2_with fail
      go_ret
      exact ⟨-1, rfl, rfl, by omega, by rw [HN.out]; rfl⟩

theorem containsF_any (A : Option Addr) (n cap : Nat) (xs : List Int) (w : World) (hl : xs.length = n) (hm : n ≤ 1000) (h : Ints w A xs) :
    Calls Try.prog 72 #[.slice A n cap, .func (.func 73) #[] #[]] w fun e w' => e = .returned (.bool (!xs.all (fun x => x == 27720))) ∧ w = w' := by
  go_enter Try.func72, Try.ntmps72
  go_wp2_with fail
  refine (indexF_any A n cap xs _ hl hm h).mono ?_
  rintro e w' ⟨r, rfl, rfl, hr, hd⟩
  have HD := Lib.hid hd
  clear hd h hl
  go_wp2_with fail
  go_ret
  exact ⟨ret_bool HD.out, rfl⟩
end Go.Proofs.Ytbidboagaoifaaa
