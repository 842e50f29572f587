/- Slices of sets with shares. -/
import Derived.Test.YtbidboagaoifaaaRefLaw
import Derived.Test.YtbidboagaoifaaaApp3
namespace Go.Proofs.Ytbidboagaoifaaa
open Go.RowKit

/-- The cells of a row of sets with shares. -/
def tcells (ts : List Pt) : List Value := ts.flatMap fun t => [.int .i64 t.1, .int .i64 t.2.1, .int .i64 t.2.2]
theorem tcells_length (ts : List Pt) : (tcells ts).length = ts.length * 3 := by
  induction ts with
  | nil => rfl
  | cons t ts ih => simp only [tcells, List.flatMap_cons, List.length_append, List.length_cons, List.length_nil] at ih ⊢; omega
theorem tcells_snoc (ts : List Pt) (t : Pt) : tcells (ts ++ [t]) = tcells ts ++ [.int .i64 t.1, .int .i64 t.2.1, .int .i64 t.2.2] := by simp [tcells]
theorem tcells_at (ts : List Pt) (k : Nat) (t : Pt) (h : ts[k]? = some t) : (tcells ts)[k * 3]? = some (.int .i64 t.1) ∧ (tcells ts)[k * 3 + 1]? = some (.int .i64 t.2.1) ∧ (tcells ts)[k * 3 + 2]? = some (.int .i64 t.2.2) := by
  induction ts generalizing k with
  | nil => simp at h
  | cons t' ts ih =>
    cases k with
    | zero => simp at h; subst h; simp [tcells]
    | succ k =>
      have := ih k (by simpa using h)
      have e1 : (k + 1) * 3 = k * 3 + 1 + 1 + 1 := by omega
      rw [e1]
      simpa [tcells] using this
/-- The slice at A reads as these sets with shares. -/
def Tps (w : World) (A : Option Addr) (ts : List Pt) : Prop := At w A (tcells ts)
theorem Tps.some_ {w : World} {A : Option Addr} {ts : List Pt} (h : Tps w A ts) (hn : 0 < ts.length) : ∃ ad, A = some ad ∧ ad.block < w.heap.size ∧ ∀ i t, ts[i]? = some t → w.cell? (ad.add (i * 3)) = some (.int .i64 t.1) ∧ w.cell? ⟨(ad.add (i * 3)).block, (ad.add (i * 3)).off + 1, none⟩ = some (.int .i64 t.2.1) ∧ w.cell? ⟨(ad.add (i * 3)).block, (ad.add (i * 3)).off + 2, none⟩ = some (.int .i64 t.2.2) := by
  obtain ⟨ad, e, hb, hc⟩ := At.some_ h (by rw [tcells_length]; omega)
  refine ⟨ad, e, hb, fun i t ht => ?_⟩
  obtain ⟨h1, h2, h3⟩ := tcells_at ts i t ht
  refine ⟨hc _ _ h1, ?_, ?_⟩
  · have h4 := hc _ _ h2
    rw [← add_add] at h4
    exact h4
  · have h4 := hc _ _ h3
    rw [← add_add] at h4
    exact h4
theorem Tps.below {w w' : World} {A : Option Addr} {ts : List Pt} (h : Tps w A ts) (hb : Below w.heap.size w w') : Tps w' A ts := At.below h hb
theorem info_gpart : (Try.prog.info? 80).map (fun i => (i.zero, i.size, i.bytes)) = some (some (.agg #[.int .i64 0, .int .i64 0, .int .i64 0]), 3, 24) := by kernel_rfl
theorem sty_gpart : STy 58 80 (.agg #[.int .i64 0, .int .i64 0, .int .i64 0]) 3 24 := ⟨Try.underlying58, info_gpart, rfl, by decide, by decide⟩

set_option maxRecDepth 100000 in
set_option maxHeartbeats 800000 in
theorem lparts_any (A : Option Addr) (n cap : Nat) (ts : List Pt) (w : World) (hl : ts.length = n) (hm : n ≤ 9223372036854775807) (h : Tps w A ts) :
    Calls Try.prog 44 #[.slice A n cap] w fun e w' => ∃ A' c, e = .returned (.slice A' (min n 18) c) ∧ w'.ownsRow w.heap.size 80 3 (.slice A' (min n 18) c) (min n 18) (tcells (ts.take 18)) ∧ Below w.heap.size w w' := by
  have hI := fun (hp : 0 < ts.length) => h.some_ hp
  have H := Lib.hid (And.intro hl hI)
  clear hl h hI
  go_enter Try.func44, Try.ntmps44
  go_wp2_with fail
  go_loopw [3, 8] (fun ov iv wr => ∃ (k : Nat) (B : Option Addr) (bc : Nat), k ≤ n ∧ iv = .int .i64 k ∧ ov = .slice B (min k 18) bc ∧ wr.ownsRow w.heap.size 80 3 (.slice B (min k 18) bc) (min k 18) (tcells ((ts.take k).take 18)) ∧ Below w.heap.size w wr) (fun _ iv _ => n - (intOf iv).toNat)
  case atStart => exact ⟨0, none, 0, Nat.zero_le _, rfl, rfl, World.ownsRow_nil _ _ _ _, Below.refl _ _⟩
  case round =>
    obtain ⟨k, B, bc, hk, rfl, rfl, hown, hbl⟩ := hrel
    have HR := Lib.hid (And.intro hown hbl)
    have hws := hbl.size
    clear hown
    by_cases hlt : k < n
    · obtain ⟨hl, hI⟩ := H.out
      obtain ⟨ad, rfl, _, hc⟩ := hI (by omega)
      obtain ⟨t, ht⟩ : ∃ t, ts[k]? = some t := ⟨_, List.getElem?_eq_getElem (by omega)⟩
      obtain ⟨g1, g2, g3⟩ := hc k t ht
      have c1 := (hbl.cell (lt_of_cell g1)).trans g1
      have c2 := (hbl.cell (lt_of_cell g2)).trans g2
      have c3 := (hbl.cell (lt_of_cell g3)).trans g3
      obtain ⟨s, a, b⟩ := t
      simp only at c1 c2 c3
      have HT := Lib.hid ht
      clear hl hI hc ht g1 g2 g3 hbl
      by_cases h18 : k < 18
      · have hmin : min k 18 = k := by omega
        have HNEW : Hid (tcells ((ts.take (k + 1)).take 18) = tcells ((ts.take k).take 18) ++ [.int .i64 s, .int .i64 a, .int .i64 b]) := Lib.hid (by
          have t1 : (ts.take (k + 1)).take 18 = ts.take (k + 1) := List.take_of_length_le (by rw [List.length_take]; omega)
          have t2 : (ts.take k).take 18 = ts.take k := List.take_of_length_le (by rw [List.length_take]; omega)
          rw [t1, t2, List.take_add_one, HT.out]
          exact tcells_snoc _ _)
        have HR2 : Hid (wr.ownsRow w.heap.size 80 3 (.slice B k bc) k (tcells ((ts.take k).take 18))) := Lib.hid (by have := HR.out.1; rwa [hmin] at this)
        rw [hmin]
        clear hmin
        go_wp2_with (at_builtin; refine app1h sty_gpart rfl _ _ rfl w.heap.size B k bc _ #[.int .i64 s, .int .i64 a, .int .i64 b] rfl (by simp [Value.oneCell']) rfl (HR2.out.alloc _) (wr.heap.size + 1) rfl (by simp) (by omega) (by go_size) ?_)
        intro A4 k4 w4 hown4 _ hbl4 hk41 hk42
        rw [← HNEW.out] at hown4
        have HR4 := Lib.hid (And.intro hown4 ((HR.out.2.alloc hws _).trans hbl4))
        clear hown4 hbl4
        go_wp2_with fail
        go_roundw
        case rel =>
          have e : min (k + 1) 18 = k + 1 := by omega
          exact ⟨k + 1, A4, k4, by omega, by go_num, by rw [e], by rw [e]; exact HR4.out.1, HR4.out.2⟩
        case measure => simp [intOf]; omega
      · have HNEW : Hid ((ts.take (k + 1)).take 18 = (ts.take k).take 18) := Lib.hid (by rw [List.take_take, List.take_take]; congr 1; omega)
        go_wp2_with fail
        go_roundw
        case rel =>
          have e : min (k + 1) 18 = min k 18 := by omega
          exact ⟨k + 1, B, bc, by omega, by go_num, by rw [e], by rw [e, HNEW.out]; exact HR.out.1.alloc _, HR.out.2.alloc hws _⟩
        case measure => simp [intOf]; omega
    · obtain rfl : n = k := by omega
      have HE : Hid ((ts.take n).take 18 = ts.take 18) := Lib.hid (by rw [List.take_of_length_le (l := ts) (by rw [H.out.1]; omega)])
      clear hbl
      go_wp2_with fail
      go_ret
      exact ⟨B, bc, rfl, by rw [← HE.out]; exact HR.out.1, HR.out.2⟩
end Go.Proofs.Ytbidboagaoifaaa
