/- A region that draws its order, whose operations read and whose calls may make memory of their own but hand back plain values: walked once, in the order of the text. No program. -/
import Derived.Deep.QuietTactic
import Derived.BigQuiet
import Derived.Below
namespace Go.Proofs.Ytbidboagaoifaaa
open Go.RowKit

/-- A world that came of w: what w holds reads in it as in w. -/
structure Desc (w : World) where
  val : World
  below : Below w.heap.size w val

instance descNonempty (w : World) : Nonempty (Desc w) := ⟨⟨w, Below.refl _ _⟩⟩

theorem wp_region_desc {P : Program} {id : Nat} {Q : Exit → Act → World → Prop} {a : Act} {w : World} {l : List Oper} (hm : P.follows .mixedOrders = true) (hB : Region.lexB .any l.toArray = true)
    (h : wpQuiet P l.toArray (fun w' => ∃ s : Desc w, w' = s.val) (fun a' => ∀ w', (∃ s : Desc w, w' = s.val) → Q .normal a' w') l a) : (Code.region id l.toArray true).wp P Q a w :=
  wp_region_quiet (C := fun w' => ∃ s : Desc w, w' = s.val) hm hB ⟨⟨_, (Below.refl _ _).drew⟩, rfl⟩ (by simpa using h)

theorem Calls.desc_of {P : Program} {f : FuncId} {args : Array Value} {w : World} {s : Desc w} {v : Value}
    (h : Calls P f args s.val fun e w' => e = .returned v ∧ Below s.val.heap.size s.val w') : Calls P f args s.val fun e w'' => e = .returned v ∧ ∃ s' : Desc w, w'' = s'.val :=
  h.mono fun _ w' ⟨he, hb⟩ => ⟨he, ⟨w', s.below.trans (hb.mono s.below.size)⟩, rfl⟩
theorem Calls.desc_of_drew {P : Program} {f : FuncId} {args : Array Value} {w : World} {s : Desc w} {v : Value}
    (h : Calls P f args s.val fun e w' => e = .returned v ∧ ∃ n, w' = s.val.drewN n) : Calls P f args s.val fun e w'' => e = .returned v ∧ ∃ s' : Desc w, w'' = s'.val :=
  h.mono fun _ _ ⟨he, n, hn⟩ => ⟨he, ⟨_, by subst hn; exact ⟨s.below.os, s.below.tape, s.below.output, s.below.size, s.below.block⟩⟩, rfl⟩
theorem Calls.desc_of_same {P : Program} {f : FuncId} {args : Array Value} {w : World} {s : Desc w} {v : Value}
    (h : Calls P f args s.val fun e w' => e = .returned v ∧ s.val = w') : Calls P f args s.val fun e w'' => e = .returned v ∧ ∃ s' : Desc w, w'' = s'.val :=
  h.mono fun _ _ ⟨he, hn⟩ => ⟨he, s, hn.symm⟩
theorem Desc.cell {w : World} (s : Desc w) {p : Addr} {v : Value} (h : w.cell? p = some v) : s.val.cell? p = some v := by
  rcases Nat.lt_or_ge p.block w.heap.size with hlt | hge
  · exact (s.below.cell hlt).trans h
  · simp [World.cell?, Array.getElem?_eq_none hge] at h
end Go.Proofs.Ytbidboagaoifaaa
